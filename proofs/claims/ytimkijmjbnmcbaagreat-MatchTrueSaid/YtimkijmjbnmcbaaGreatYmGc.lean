/- Contracts: components and rings (the reference), as far as they are needed. -/
import Derived.Test.YtimkijmjbnmcbaaGreatYmGb
import Derived.Test.YtimkijmjbnmcbaaGreatYm7
namespace Go.Proofs.YtimkijmjbnmcbaaGreat
open Go Go.RowKit
theorem GR.of {g : List (List Int)} (h : gOk g = true) : GR g ∧ g.length ≤ 256 := by
  unfold gOk at h
  rw [Bool.and_eq_true, decide_eq_true_eq, List.all_eq_true] at h
  refine ⟨fun i hi k hk => ?_, h.1⟩
  have h1 := h.2 i (List.mem_range.2 hi)
  unfold gRow at h1
  rw [List.all_eq_true] at h1
  have h2 := h1 k (List.mem_range.2 hk)
  unfold gEdge at h2
  simp only [Bool.and_eq_true, decide_eq_true_eq] at h2
  exact ⟨h2.1.1.1.1, h2.1.1.1.2⟩
theorem gErr_ok {g : List (List Int)} (h : gOk g = true) : gErr g = 0 := by simp [gErr, h]
/-- A list whose rows nobody reads. -/
def EAny : ETy Unit where
  et := 22
  st := 23
  size := 1
  bytes := 24
  z := .slice none 0 0
  R := fun _ vs _ => ∃ B bn bc, vs = [.slice B bn bc]
  under := by kernel_rfl
  info := by
    obtain ⟨i, h1, h2, h3, h4⟩ := info_parts (P := Tryz.prog) (e := 22) (z := .slice none 0 0) (size := 1) (bytes := 24) (by kernel_rfl)
    exact ⟨i, h1, h2, h3, h4⟩
  zsize := rfl
  pos := by decide
  len := by rintro w vs x ⟨A, n, c, rfl⟩; exact ⟨rfl, by simp [Value.oneCell']⟩
  keep := fun _ _ _ _ _ h => h
/-- Some components are handed back. -/
def RetComps (w : World) (n : Nat) (e : Ending) (w' : World) : Prop := ∃ A k c, k ≤ n ∧ e = .returned (.tuple #[.slice A k c, .int .i64 0]) ∧ Ext w w'
theorem nodes_pos {l : List Bool} {k : Nat} (hk : k < l.length) (h : bit_ l k = true) : 0 < (nodes l).length := List.length_pos_of_mem (nodes_mem.2 ⟨k, hk, h, rfl⟩)
theorem nodes_num {l : List Bool} {k : Nat} (hk : k < (nodes l).length) : ∃ m : Nat, m < l.length ∧ num (nodes l) k = m := by
  obtain ⟨m, h1, -, h2⟩ := nodes_mem.1 (List.getElem_mem hk)
  exact ⟨m, h1, by rw [num_eq hk, h2]⟩
theorem list12_n (w : World) (g n : Nat) (l : List Bool) (h : BB w g l) (hn : l.length = n) (hl : n ≤ 1000000) : Calls Tryz.prog 100 #[.slice (some ⟨g, 0, none⟩) n n] w fun e w' => ∃ A c, e = .returned (.slice A (nodes l).length c) ∧ RInts w' A (nodes l) ∧ (∀ ad, A = some ad → w.heap.size ≤ ad.block) ∧ Ext w w' := by
  subst hn; exact list12_ok w g l h hl
set_option maxRecDepth 100000 in
set_option maxHeartbeats 1000000 in
theorem comps12_ok (w : World) (A : Option Addr) (c : Nat) (g : List (List Int)) (h : RRows w A g) (hg : gOk g = true) (b : Nat) (ins : List Bool) (hb : BB w b ins) (hl : ins.length = g.length) :
    Calls Tryz.prog 90 #[.slice A g.length c, .slice (some ⟨b, 0, none⟩) ins.length ins.length] w (RetComps w g.length) := by
  obtain ⟨hgr, hm⟩ := GR.of hg
  have Hgr := hid hgr
  have he := gErr_ok hg
  have hck := check12_ok w A c g h
  rw [he] at hck
  have Hck := hid hck; clear hck he
  have hne : ((ins.length : Int) != (g.length : Int)) = false := by simp [hl]
  have Hl := hid hl; clear hl
  go_enter Tryz.func90, Tryz.ntmps90
  go_wp2_with (go_at_call 41; refine Hck.out.mono ?_; rintro e w1 ⟨rfl, rfl⟩)
  clear Hck
  go_loopw [6, 7, 8] (fun v i _ wr => ∃ (k : Nat) (X : Option Addr) (n xc : Nat), k ≤ g.length ∧ n ≤ k ∧ i = .int .i64 k ∧ v = .slice X n xc ∧ OwnG EAny wr w.heap.size noT X n xc (List.replicate n ()) ∧ Ext w wr) (fun _ i _ _ => g.length - (intOf i).toNat)
  case atStart => exact ⟨0, none, 0, 0, Nat.zero_le _, Nat.le_refl _, rfl, rfl, OwnG.nil EAny _ _ _, Ext.rfl' _⟩
  case round =>
    obtain ⟨k, X, n, xc, hk, hn, rfl, rfl, ho, hx⟩ := hrel
    by_cases hlt : k < g.length
    · have q1 := BB.at_ (hb.ext hx) (k := k) (by have := Hl.out; omega)
      have hki : k < ins.length := by have := Hl.out; omega
      cases e1 : bit_ ins k
      · rw [e1] at q1
        go_wp2_with fail
        go_roundw
        case rel => exact ⟨k + 1, X, n, xc, by omega, by omega, by go_num, rfl, ho, hx⟩
        case measure => simp [intOf]; omega
      rw [e1] at q1
      have hc1 := conn12_ok wr A c g (h.to hx) Hgr.out b ins (hb.ext hx) Hl.out k hlt hm
      have Hc1 := hid hc1; clear hc1
      go_upto_region 11 with (first
        | (go_at_call 101; refine Hc1.out.mono ?_; rintro e w1 ⟨met, mb, hml0, hms, rfl, hB, hmb, hx1⟩; have hml := hid hml0; clear hml0)
        | (go_at_call 100; refine (list12_n _ _ _ met hB hml.out (by omega)).mono ?_; rintro e w2 ⟨Y, yc, rfl, hY, hYb, hx2⟩))
      have hnp := nodes_pos (k := k) (by have := hml.out; omega) hms
      obtain ⟨yd, rfl, hyb, hyc, -⟩ := hY.num hnp
      have hy0 := hyc 0 hnp
      rw [show yd.add 0 = yd from by simp [Addr.add]] at hy0
      obtain ⟨m0, hm1, hm2⟩ := nodes_num hnp
      rw [hm2] at hy0
      clear hyc
      have hx3 := hx1.tr hx2
      by_cases hm0 : m0 = k
      · have hbe : ((m0 : Int) == (k : Int)) = true := by simp [hm0]
        clear hm0
        have hcel : ∀ j u, [[Value.slice (some yd) (nodes met).length yc]].flatten[j]? = some u → (w2.alloc (.cells #[.slice (some yd) (nodes met).length yc] 22)).cell? ((⟨w2.heap.size, 0, none⟩ : Addr).add j) = some u := by
          intro j u hu
          match j, hu with
          | 0, hu =>
            have := (Blk.new w2 22 #[.slice (some yd) (nodes met).length yc]).cell 0
            simp at hu
            subst hu
            exact this
          | j + 1, hu => simp at hu
        have Hcel := hid hcel; clear hcel
        have hsz : w.heap.size ≤ (w2.alloc (.cells #[.slice (some yd) (nodes met).length yc] 22)).heap.size := ((hx.tr hx3).al _).size
        have ho3 := (ho.to hx3).to ((Ext.rfl' w2).al (.cells #[.slice (some yd) (nodes met).length yc] 22))
        have Hsz := hid hsz; clear hsz
        go_wp2_with (at_builtin; refine app_g EAny w.heap.size Hsz.out rfl _ _ rfl noT X n xc (List.replicate n ()) rfl ho3 ⟨w2.heap.size, 0, none⟩ 1 1 rfl [()] [[.slice (some yd) (nodes met).length yc]] rfl (fun _ _ => ⟨⟨_, _, _, rfl⟩, trivial⟩) Hcel.out (by show (_ + 1) * 24 ≤ _; omega) (by simp [maxLen]; omega) ?_; intro Z9 zc w9 hg9)
        have hx9 : Ext w w9 := OwnG.ext ((hx.tr hx3).al _) ho3 hg9.grown
        have hown9 := hg9.own
        go_roundw
        case rel => exact ⟨k + 1, Z9, n + 1, zc, by omega, by omega, by go_num, rfl, hown9.as rfl (by rw [List.replicate_succ']), hx9⟩
        case measure => simp [intOf]; omega
      · have hbe : ((m0 : Int) == (k : Int)) = false := by rw [beq_eq_false_iff_ne]; omega
        go_wp2_with fail
        go_roundw
        case rel => exact ⟨k + 1, X, n, xc, by omega, by omega, by go_num, rfl, ho.to hx3, hx.tr hx3⟩
        case measure => simp [intOf]; omega
    · go_wp2_with fail
      go_ret2
      exact ⟨X, n, xc, by omega, rfl, hx⟩
/-- A Boolean and no error. -/
def RetRing (w : World) (e : Ending) (w' : World) : Prop := ∃ b, e = .returned (.tuple #[.bool b, .int .i64 0]) ∧ Ext w w'
set_option maxRecDepth 100000 in
set_option maxHeartbeats 2000000 in
theorem ring12_ok (w : World) (A : Option Addr) (c : Nat) (g : List (List Int)) (h : RRows w A g) (hg : gOk g = true) (b : Nat) (ins : List Bool) (hb : BB w b ins) (hl : ins.length = g.length) :
    Calls Tryz.prog 91 #[.slice A g.length c, .slice (some ⟨b, 0, none⟩) ins.length ins.length] w (RetRing w) := by
  obtain ⟨hgr, hm⟩ := GR.of hg
  have Hgr := hid hgr
  have he := gErr_ok hg
  have hck := check12_ok w A c g h
  rw [he] at hck
  have Hck := hid hck; clear hck he
  have hne : ((ins.length : Int) != (g.length : Int)) = false := by simp [hl]
  have hll := list12_ok w b ins hb (by omega)
  have Hll := hid hll; clear hll
  have Hl := hid hl; clear hl
  go_enter Tryz.func91, Tryz.ntmps91
  go_upto_region 6 with (first
    | (go_at_call 41; refine Hck.out.mono ?_; rintro e w1 ⟨rfl, rfl⟩)
    | (go_at_call 100; refine Hll.out.mono ?_; rintro e w1 ⟨Y, yc, rfl, hY, -, hx1⟩))
  clear Hck Hll
  by_cases h3 : (nodes ins).length < 3
  · go_wp2_with fail
    go_ret2
    exact ⟨false, rfl, hx1⟩
  have hin : ∀ k, k < (nodes ins).length → ∃ m : Nat, m < g.length ∧ num (nodes ins) k = m := fun k hk => by rw [← Hl.out]; exact nodes_num hk
  obtain ⟨yd, rfl, hyb, hyc, -⟩ := hY.num (by omega)
  obtain ⟨m0, hm1, hm2⟩ := hin 0 (by omega)
  have hy0 := hyc 0 (by omega)
  rw [show yd.add 0 = yd from by simp [Addr.add], hm2] at hy0
  have hc1 := conn12_ok w1 A c g (h.to hx1) Hgr.out b ins (hb.ext hx1) Hl.out m0 hm1 hm
  have Hc1 := hid hc1; have Hin := hid hin; clear hc1 hin hm2
  have hyl := hY.len
  go_wp2_with (go_at_call 101; refine Hc1.out.mono ?_; rintro e w2 ⟨met, mb, hml0, hms, rfl, hB, hmb, hx2⟩; have hml := hid hml0; clear hml0)
  clear hy0 Hc1
  have hx3 := hx1.tr hx2
  go_loopw [8, 9, 10] (fun i _ _ wr => ∃ k : Nat, k ≤ (nodes ins).length ∧ i = .int .i64 k ∧ w2 = wr) (fun i _ _ _ => (nodes ins).length - (intOf i).toNat)
  case atStart => exact ⟨0, Nat.zero_le _, rfl, rfl⟩
  case round =>
    obtain ⟨k, hk, rfl, rfl⟩ := hrel
    by_cases hlt : k < (nodes ins).length
    · obtain ⟨x, hx4, hxe⟩ := Hin.out k hlt
      have hyk := cellE hx2 (hyc k hlt) (by rw [block_of_add]; exact hyb)
      rw [hxe] at hyk
      obtain ⟨ad, B, cb, rfl, hab, hcb, hR⟩ := (h.to hx3).rowAt x hx4
      have hrl := hR.len
      go_wp2_with fail
      go_loopw [9, 10] (fun n j wr => ∃ (jj : Nat) (m : Nat), jj ≤ (row g x).length ∧ m ≤ jj ∧ j = .int .i64 jj ∧ n = .int .i64 m ∧ w2 = wr) (fun _ j _ => (row g x).length - (intOf j).toNat)
      case atStart => exact ⟨0, 0, Nat.zero_le _, Nat.le_refl _, rfl, rfl, rfl⟩
      case round =>
        obtain ⟨jj, m, hj, hmj, rfl, rfl, rfl⟩ := hrel
        by_cases hlt2 : jj < (row g x).length
        · obtain ⟨bd, rfl, hbb, hcc, _⟩ := hR.num (by omega)
          have hc2 := hcc jj hlt2
          obtain ⟨n0, n1⟩ := Hgr.out x hx4 jj hlt2
          obtain ⟨y, hyn⟩ : ∃ y : Nat, num (row g x) jj = y := ⟨(num (row g x) jj).toNat, by omega⟩
          rw [hyn] at hc2 n0 n1
          have hyi : y < ins.length := by have := Hl.out; omega
          have q3 := BB.at_ (hb.ext hx3) hyi
          clear hcc
          cases e1 : bit_ ins y
          · rw [e1] at q3
            go_wp2_with fail
            go_roundw
            case rel => exact ⟨jj + 1, m, by omega, by omega, by go_num, rfl, trivial⟩
            case measure => simp [intOf]; omega
          · rw [e1] at q3
            go_wp2_with fail
            go_roundw
            case rel => exact ⟨jj + 1, m + 1, by omega, by omega, by go_num, by go_num, trivial⟩
            case measure => simp [intOf]; omega
        · have hxm : x < g.length := hx4
          have q4 := BB.at_ hB (k := x) (by have := hml.out; omega)
          by_cases h2 : m = 2
          · have hbe : ((m : Int) != 2) = false := by simp [h2]
            clear h2
            cases e1 : bit_ met x
            · rw [e1] at q4
              go_wp2_with fail
              go_ret2
              exact ⟨false, rfl, hx3⟩
            · rw [e1] at q4
              go_wp2_with fail
              go_roundw
              case rel => exact ⟨k + 1, by omega, by go_num, trivial⟩
              case measure => simp [intOf]; omega
          · have hbe : ((m : Int) != 2) = true := by rw [bne_iff_ne]; omega
            go_wp2_with fail
            go_ret2
            exact ⟨false, rfl, hx3⟩
    · go_wp2_with fail
      go_ret2
      exact ⟨true, rfl, hx3⟩
end Go.Proofs.YtimkijmjbnmcbaaGreat
