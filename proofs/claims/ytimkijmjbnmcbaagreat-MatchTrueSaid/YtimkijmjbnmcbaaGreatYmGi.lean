/- Contract: whether a condition is true in a finished grid (the law's own function). -/
import Derived.Test.YtimkijmjbnmcbaaGreatYmGh
namespace Go.Proofs.YtimkijmjbnmcbaaGreat
open Go Go.RowKit
set_option maxHeartbeats 1000000 in
theorem chosen33_c (w : World) (A B : Option Addr) (c d : Nat) (l s : List Int) (h : RInts w A l) (g : RInts w B s) (hi : Idx s l.length) :
    Calls Tryz.prog 14 #[.slice A l.length c, .slice B s.length d] w (RetIc w (chosen l s)) := by
  have hl := g.len
  have hl2 := h.len
  have Hi := hid hi; clear hi
  go_enter Tryz.func14, Tryz.ntmps14
  go_wp2_with fail
  go_loopw [5, 6] (fun v i wr => ∃ (k : Nat) (C : Option Addr) (cc : Nat), k ≤ s.length ∧ i = .int .i64 k ∧ v = .slice C k cc ∧ OwnI wr w.heap.size (.slice C k cc) (chosen l (s.take k)) ∧ Ext w wr) (fun _ i _ => s.length - (intOf i).toNat)
  case atStart => exact ⟨0, none, 0, Nat.zero_le _, rfl, rfl, OwnI.nil _ _, Ext.rfl' _⟩
  case round =>
    obtain ⟨k, C, cc, hk, rfl, rfl, hown, hx⟩ := hrel
    by_cases hlt : k < s.length
    · obtain ⟨ad, rfl, _, hc, _⟩ := (g.to hx).at_ k hlt
      obtain ⟨h1, h2⟩ := Hi.out _ (List.getElem_mem hlt)
      obtain ⟨bd, rfl, _, hd, hv⟩ := (h.to hx).num (by omega)
      have hd1 := hd s[k].toNat (by omega)
      have hv1 := hv s[k].toNat (by omega)
      have Hv := hid hv1; clear hd hv hv1
      have ht : chosen l (s.take (k + 1)) = chosen l (s.take k) ++ [num l s[k].toNat] := by unfold chosen; rw [List.take_succ_eq_append_getElem hlt, List.map_append]; rfl
      have Ht := hid ht; clear ht
      go_wp2_with (at_builtin; refine app_one w hx rfl _ _ rfl C k cc _ rfl hown _ (num l s[k].toNat) rfl Hv.out (by omega) ?_; intro A' c' w2 hown2 hx2 hg2)
      go_roundw
      case rel => exact ⟨k + 1, A', c', by omega, by go_num, rfl, hown2.as rfl Ht.out.symm, hx2⟩
      case measure => simp [intOf]; omega
    · have hk3 : k = s.length := by omega
      have hall : s.take k = s := List.take_of_length_le (by omega)
      rw [hall] at hown
      subst hk3
      go_wp2_with fail
      go_ret
      exact ⟨C, cc, by simp [chosen], hown.ints, by simpa [chosen] using hown.cap, hx⟩
/-- What the law's boxes hold. -/
def IsBox (W : World) (g : Nat) (q : Problem) (p : PPtr) (c : Cond) (A : Option Addr) (a : Nat) (B : Option Addr) (b : Nat) : Prop :=
  (ProbBox W g q p) ∧ W.cell? ⟨g + 1, 0, none⟩ = some (.int .i64 c.kind) ∧ W.cell? ⟨g + 1, 1, none⟩ = some (.slice A c.cells.length a) ∧ W.cell? ⟨g + 1, 2, none⟩ = some (.slice B c.letters.length b) ∧ W.cell? ⟨g + 1, 3, none⟩ = some (.int .i64 c.n)
def SF.icx (l : List Int) : SF := ⟨fun W v => ∃ A c, v = .slice A l.length c ∧ RInts W A l ∧ l.length ≤ c, fun _ _ _ hb ⟨A, c, e, h, hc⟩ => ⟨A, c, e, h.to hb, hc⟩⟩
theorem count33_n (w : World) (A B S : Option Addr) (c d s : Nat) (grid cells symbols : List Int) (m n : Nat) (hm : cells.length = m) (hn : symbols.length = n) (h : RInts w A grid) (g : RInts w B cells) (hs : RInts w S symbols) (hi : Idx cells grid.length) : Calls Tryz.prog 13 #[.slice A grid.length c, .slice B m d, .slice S n s] w fun e w' => e = .returned (.int .i64 (cntL grid cells symbols)) ∧ Ext w w' := by
  subst hm hn; exact count33_ok w A B S c d s grid cells symbols h g hs hi
theorem isDiff_bad {grid own : List Int} {k : Nat} (hk : k < own.length) (h : 0 < cntL grid (own.take k) [gat grid (num own k)]) : isDiff grid own = false := rall_bad hk (by rw [decide_eq_false]; omega)
set_option maxRecDepth 100000 in
set_option maxHeartbeats 8000000 in
theorem is33_ok (w : World) (q : Problem) (p : PPtr) (G : Option Addr) (gc : Nat) (grid : List Int) (c : Cond) (A : Option Addr) (a : Nat) (B : Option Addr) (b : Nat) (C : Option Addr) (cn : Nat) (D : Option Addr) (dn : Nat) (cells symbols : List Int) (hq : RProb w q p) (hG : RInts w G grid) (hA : RInts w A c.cells) (hB : RInts w B c.letters) (hC : RInts w C cells) (hD : RInts w D symbols) (hf : Fin q grid) (hco : CondOK q c cells symbols) :
    Calls Tryz.prog 12 #[probV q p, .slice G grid.length gc, condV c A a B b, .slice C cells.length cn, .slice D symbols.length dn] w fun e w' => e = .returned (.bool (isB q grid c cells symbols)) ∧ Ext w w' := by
  have x0 := ((Ext.rfl' w).al (probO q p)).al (condO c A a B b)
  have F : ∀ V, Ext ((w.alloc (probO q p)).alloc (condO c A a B b)) V → IsBox V w.heap.size q p c A a B b := fun V hV => by
    have e1 := World.size_alloc w (probO q p)
    exact ⟨probBox (((Ext.rfl' _).al _).tr hV) rfl, boxE hV e1 0 _ rfl, boxE hV e1 1 _ rfl, boxE hV e1 2 _ rfl, boxE hV e1 3 _ rfl⟩
  have h1 := fun W hW => chosen33_c W C A cn a cells c.cells (hC.to (w' := W) (x0.tr hW)) (hA.to (x0.tr hW)) hco.ci
  have h2 := fun W hW => chosen33_c W D B dn b symbols c.letters (hD.to (w' := W) (x0.tr hW)) (hB.to (x0.tr hW)) hco.li
  have hidx : Idx (chosen cells c.cells) grid.length := fun x hx => by
    have := hco.cells x (chosen_mem hco.ci hx); have := hf.len; omega
  have hl1 : (chosen cells c.cells).length = c.cells.length := chosen_len _ _
  have hl2 : (chosen symbols c.letters).length = c.letters.length := chosen_len _ _
  have hkc := hco.kind
  rw [← hl1, ← hl2] at hkc
  have hres : isB q grid c cells symbols = isK q grid c.kind c.n (chosen cells c.cells) (chosen symbols c.letters) := rfl
  rw [hres]
  clear hres hl1 hl2
  obtain ⟨own, ho⟩ : ∃ own, chosen cells c.cells = own := ⟨_, rfl⟩
  obtain ⟨let_, hle⟩ : ∃ l, chosen symbols c.letters = l := ⟨_, rfl⟩
  rw [ho] at h1 hidx hkc ⊢
  rw [hle] at h2 hkc ⊢
  clear ho hle hco
  have H1 := hid h1; have H2 := hid h2; have HF := hid F; clear h1 h2 F
  have hs16 := hf.sym16
  have hsV := hf.symV
  obtain ⟨hv1, hv99, -⟩ := valid_more hf.valid
  have hnl : (q.neighbors.length : Int) = grid.length := by have := (valid_cons hf.valid).2; have := hf.len; omega
  have Hnl := hid hnl
  clear hnl hv1 hf hA hB hC hD
  have hV0 := hq.values
  have hN0 := hq.neighbors
  clear hq
  obtain ⟨pa, pac, pb, pbc, pc, pcc⟩ := p
  obtain ⟨kind, cc, cl, n⟩ := c
  dsimp only at hkc hV0 hN0
  have hk : kind = 1 ∨ kind = 2 ∨ kind = 3 ∨ kind = 4 ∨ kind = 5 ∨ kind = 6 := by
    unfold kindC at hkc
    false_or_by_contra
    rename_i h
    rw [if_neg (by omega), if_neg (by omega), if_neg (by omega), if_neg (by omega), if_neg (by omega)] at hkc
    cases hkc
  rcases hk with rfl | rfl | rfl | rfl | rfl | rfl
  · show Calls Tryz.prog 12 _ _ fun e w' => e = .returned (.bool (isDiff grid own)) ∧ Ext w w'
    go_enter Tryz.func12, Tryz.ntmps12
    go_upto_region 1 with fail
    refine wp_region_sf (fun | 3 => some (SF.icx own) | 7 => some (SF.icx let_) | _ => none) (by kernel_rfl) (by kernel_rfl) ?_
    repeat (first | (refine wpE_skipK ?_ ?_; (focus ((first | refine wanted_notF rfl rfl ?_ | refine wanted_notT rfl rfl ?_); (focus (simp only [List.getElem?_toArray, List.getElem?_cons_succ, List.getElem?_cons_zero]; done)))); intro K hK; go_simp; apply hK; clear hK K; (have hq9 : True := trivial); clear hq9) | (refine wpE_detN rfl rfl (fun K hK => ?_); apply Exists.intro; apply And.intro; (focus (rintro W ⟨hx, -⟩; obtain ⟨-, b0, b1', b2, b3⟩ := HF.out W hx; go_simp; all_goals rfl)); go_simp; apply hK; clear hK K; (have hq9 : True := trivial); clear hq9) | (refine wpE_detK rfl ?_ ?_; (focus (refine wanted_so rfl rfl ?_; (focus (simp only [List.getElem?_toArray, List.getElem?_cons_succ, List.getElem?_cons_zero]; done)))); intro K hK; apply Exists.intro; apply And.intro; (focus (rintro W ⟨hx, -⟩; obtain ⟨-, b0, b1', b2, b3⟩ := HF.out W hx; go_simp; all_goals rfl)); go_simp; apply hK; clear hK K; (have hq9 : True := trivial); clear hq9))
    (first | refine wpE_newN _ rfl rfl ?_ ?_ | (refine wpE_newK _ rfl ?_ ?_ ?_; (focus (refine wanted_so rfl rfl ?_; (focus (simp only [List.getElem?_toArray, List.getElem?_cons_succ, List.getElem?_cons_zero]; done))))))
    · rintro W ⟨hW, -⟩
      go_simp
      refine ⟨Ext.rfl' _, (H1.out W hW).mono fun e W' hr => ?_⟩
      obtain ⟨A', c', rfl, h1, h2, h3⟩ := hr
      exact ⟨_, rfl, h3, A', c', rfl, h1, h2⟩
    rintro _ ⟨_, O, oc, rfl, -, hoc⟩ K hK
    go_simp; apply hK; clear hK K; (have hq9 : True := trivial); clear hq9
    repeat (first | (refine wpE_skipK ?_ ?_; (focus ((first | refine wanted_notF rfl rfl ?_ | refine wanted_notT rfl rfl ?_); (focus (simp only [List.getElem?_toArray, List.getElem?_cons_succ, List.getElem?_cons_zero]; done)))); intro K hK; go_simp; apply hK; clear hK K; (have hq9 : True := trivial); clear hq9) | (refine wpE_detN rfl rfl (fun K hK => ?_); apply Exists.intro; apply And.intro; (focus (rintro W ⟨hx, -⟩; obtain ⟨-, b0, b1', b2, b3⟩ := HF.out W hx; go_simp; all_goals rfl)); go_simp; apply hK; clear hK K; (have hq9 : True := trivial); clear hq9) | (refine wpE_detK rfl ?_ ?_; (focus (refine wanted_so rfl rfl ?_; (focus (simp only [List.getElem?_toArray, List.getElem?_cons_succ, List.getElem?_cons_zero]; done)))); intro K hK; apply Exists.intro; apply And.intro; (focus (rintro W ⟨hx, -⟩; obtain ⟨-, b0, b1', b2, b3⟩ := HF.out W hx; go_simp; all_goals rfl)); go_simp; apply hK; clear hK K; (have hq9 : True := trivial); clear hq9))
    (first | refine wpE_newN _ rfl rfl ?_ ?_ | (refine wpE_newK _ rfl ?_ ?_ ?_; (focus (refine wanted_so rfl rfl ?_; (focus (simp only [List.getElem?_toArray, List.getElem?_cons_succ, List.getElem?_cons_zero]; done))))))
    · rintro W ⟨hW, -⟩
      go_simp
      refine ⟨Ext.rfl' _, (H2.out W hW).mono fun e W' hr => ?_⟩
      obtain ⟨A', c', rfl, h1, h2, h3⟩ := hr
      exact ⟨_, rfl, h3, A', c', rfl, h1, h2⟩
    rintro _ ⟨_, L, lc, rfl, -, -⟩ K hK
    go_simp; apply hK; clear hK K; (have hq9 : True := trivial); clear hq9
    repeat (first | (refine wpE_skipK ?_ ?_; (focus ((first | refine wanted_notF rfl rfl ?_ | refine wanted_notT rfl rfl ?_); (focus (simp only [List.getElem?_toArray, List.getElem?_cons_succ, List.getElem?_cons_zero]; done)))); intro K hK; go_simp; apply hK; clear hK K; (have hq9 : True := trivial); clear hq9) | (refine wpE_detN rfl rfl (fun K hK => ?_); apply Exists.intro; apply And.intro; (focus (rintro W ⟨hx, -⟩; obtain ⟨-, b0, b1', b2, b3⟩ := HF.out W hx; go_simp; all_goals rfl)); go_simp; apply hK; clear hK K; (have hq9 : True := trivial); clear hq9) | (refine wpE_detK rfl ?_ ?_; (focus (refine wanted_so rfl rfl ?_; (focus (simp only [List.getElem?_toArray, List.getElem?_cons_succ, List.getElem?_cons_zero]; done)))); intro K hK; apply Exists.intro; apply And.intro; (focus (rintro W ⟨hx, -⟩; obtain ⟨-, b0, b1', b2, b3⟩ := HF.out W hx; go_simp; all_goals rfl)); go_simp; apply hK; clear hK K; (have hq9 : True := trivial); clear hq9))
    apply wpE_nil
    rintro W1 ⟨hW1, hGx⟩
    obtain ⟨_, _, e1, RO, -⟩ := (hGx 3).1.2 rfl
    cases e1
    obtain ⟨_, _, e2, RL, -⟩ := (hGx 7).2 rfl
    cases e2
    clear hGx
    have hol := RO.len
    obtain ⟨-, b0, b1', b2, b3⟩ := HF.out _ hW1
    dsimp only at b0 b1' b2 b3
    go_wp2_with fail
    go_loopw [13, 14, 32] (fun _ _ i wr => ∃ k : Nat, k ≤ own.length ∧ i = .int .i64 k ∧ Hid ((List.range k).all (fun i => decide (cntL grid (own.take i) [gat grid (num own i)] = 0)) = true) ∧ Ext W1 wr) (fun _ _ i _ => own.length - (intOf i).toNat)
    case atStart => exact ⟨0, Nat.zero_le _, rfl, rfl, Ext.rfl' _⟩
    case round =>
      obtain ⟨k, hk, rfl, hno, hx⟩ := hrel
      by_cases hlt : k < own.length
      · obtain ⟨ad, bd, e1, e2, hb1, F1⟩ := gridAt (hG.to (x0.tr (hW1.tr hx))) (RO.to hx) hidx hlt
        subst e1 e2
        obtain ⟨c0, -⟩ := F1 wr (Ext.rfl' _)
        have HF1 := hid F1; clear F1
        have hsy := gat_sym hs16 hb1.1 hb1.2
        have hkc : (k : Int) ≤ (oc : Int) := by omega
        have hk0 : (0 : Int) ≤ (k : Int) := by omega
        have hit : Idx (own.take k) grid.length := fun x hx => hidx x (List.mem_of_mem_take hx)
        have hlt3 : (own.take k).length = k := by simp; omega
        obtain ⟨x, hxg⟩ : ∃ x, gat grid (num own k) = x := ⟨_, rfl⟩
        have hst := rall_succ (fun i => decide (cntL grid (own.take i) [gat grid (num own i)] = 0)) k
        rw [hno.out, Bool.true_and, hxg] at hst
        have hbd := isDiff_bad (grid := grid) hlt
        rw [hxg] at hbd hsy
        have HF3 : Hid (∀ W, Ext wr W → W.cell? (ad.add (num own k).toNat) = some (.int .i64 x)) := hid fun W hW => by rw [← hxg]; exact (HF1.out W hW).2
        clear hxg
        obtain ⟨m, hm⟩ : ∃ m, cntL grid (own.take k) [x] = m := ⟨_, rfl⟩
        have hcn := fun W (hW : Ext wr W) g (hR : RInts W (some ⟨g, 0, none⟩) [x]) => count33_n W (some ad) (some bd) (some ⟨g, 0, none⟩) gc oc 1 grid (own.take k) [x] k 1 hlt3 rfl (hG.to (x0.tr (hW1.tr (hx.tr hW)))) ((RO.to (hx.tr hW)).take k) hR hit
        rw [hm] at hcn hst hbd
        have Hcn := hid hcn; have Hst := hid hst; have Hbd := hid hbd; clear hcn hst hbd hm hlt3 hit HF1
        go_upto_region 7 with fail
        clear c0
        refine wp_region_sf (fun | 8 => some (SF.one x) | 9 => some (SF.val (.int .i64 (m : Int))) | _ => none) (by kernel_rfl) (by kernel_rfl) ?_
        repeat (first | (refine wpE_skipK ?_ ?_; (focus ((first | refine wanted_notF rfl rfl ?_ | refine wanted_notT rfl rfl ?_); (focus (simp only [List.getElem?_toArray, List.getElem?_cons_succ, List.getElem?_cons_zero]; done)))); intro K hK; go_simp; apply hK; clear hK K; (have hq9 : True := trivial); clear hq9) | (refine wpE_detN rfl rfl (fun K hK => ?_); apply Exists.intro; apply And.intro; (focus (rintro W ⟨hx, -⟩; obtain q0 := HF3.out W hx; go_simp; all_goals rfl)); go_simp; apply hK; clear hK K; (have hq9 : True := trivial); clear hq9) | (refine wpE_detK rfl ?_ ?_; (focus (refine wanted_so rfl rfl ?_; (focus (simp only [List.getElem?_toArray, List.getElem?_cons_succ, List.getElem?_cons_zero]; done)))); intro K hK; apply Exists.intro; apply And.intro; (focus (rintro W ⟨hx, -⟩; obtain q0 := HF3.out W hx; go_simp; all_goals rfl)); go_simp; apply hK; clear hK K; (have hq9 : True := trivial); clear hq9))
        (first | refine wpE_newN _ rfl rfl ?_ ?_ | (refine wpE_newK _ rfl ?_ ?_ ?_; (focus (refine wanted_so rfl rfl ?_; (focus (simp only [List.getElem?_toArray, List.getElem?_cons_succ, List.getElem?_cons_zero]; done))))))
        · rintro W ⟨hW, -⟩
          go_simp
          exact ⟨(Ext.rfl' _).al _, W.heap.size, rfl, by simp, (Blk.new W _ _).cell 0⟩
        rintro _ ⟨_, gb, rfl, -⟩ K hK
        go_simp; apply hK; clear hK K; (have hq9 : True := trivial); clear hq9
        repeat (first | (refine wpE_skipK ?_ ?_; (focus ((first | refine wanted_notF rfl rfl ?_ | refine wanted_notT rfl rfl ?_); (focus (simp only [List.getElem?_toArray, List.getElem?_cons_succ, List.getElem?_cons_zero]; done)))); intro K hK; go_simp; apply hK; clear hK K; (have hq9 : True := trivial); clear hq9) | (refine wpE_detN rfl rfl (fun K hK => ?_); apply Exists.intro; apply And.intro; (focus (rintro W ⟨hx, -⟩; obtain q0 := HF3.out W hx; go_simp; all_goals rfl)); go_simp; apply hK; clear hK K; (have hq9 : True := trivial); clear hq9) | (refine wpE_detK rfl ?_ ?_; (focus (refine wanted_so rfl rfl ?_; (focus (simp only [List.getElem?_toArray, List.getElem?_cons_succ, List.getElem?_cons_zero]; done)))); intro K hK; apply Exists.intro; apply And.intro; (focus (rintro W ⟨hx, -⟩; obtain q0 := HF3.out W hx; go_simp; all_goals rfl)); go_simp; apply hK; clear hK K; (have hq9 : True := trivial); clear hq9))
        (first | refine wpE_newN _ rfl rfl ?_ ?_ | (refine wpE_newK _ rfl ?_ ?_ ?_; (focus (refine wanted_so rfl rfl ?_; (focus (simp only [List.getElem?_toArray, List.getElem?_cons_succ, List.getElem?_cons_zero]; done))))))
        · rintro W ⟨hW, hGx⟩
          obtain ⟨g', e1, -, hcb⟩ := (hGx ⟨8, .data⟩ (by simp) rfl).2 rfl
          cases e1
          clear hGx
          go_simp
          exact ⟨Ext.rfl' _, (Hcn.out W hW gb (RInts.one hcb ⟨by omega, by omega⟩)).mono fun e W' ⟨he, hb⟩ => ⟨_, he, hb, rfl⟩⟩
        rintro _ ⟨_, rfl⟩ K hK
        go_simp; apply hK; clear hK K; (have hq9 : True := trivial); clear hq9
        repeat (first | (refine wpE_skipK ?_ ?_; (focus ((first | refine wanted_notF rfl rfl ?_ | refine wanted_notT rfl rfl ?_); (focus (simp only [List.getElem?_toArray, List.getElem?_cons_succ, List.getElem?_cons_zero]; done)))); intro K hK; go_simp; apply hK; clear hK K; (have hq9 : True := trivial); clear hq9) | (refine wpE_detN rfl rfl (fun K hK => ?_); apply Exists.intro; apply And.intro; (focus (rintro W ⟨hx, -⟩; obtain q0 := HF3.out W hx; go_simp; all_goals rfl)); go_simp; apply hK; clear hK K; (have hq9 : True := trivial); clear hq9) | (refine wpE_detK rfl ?_ ?_; (focus (refine wanted_so rfl rfl ?_; (focus (simp only [List.getElem?_toArray, List.getElem?_cons_succ, List.getElem?_cons_zero]; done)))); intro K hK; apply Exists.intro; apply And.intro; (focus (rintro W ⟨hx, -⟩; obtain q0 := HF3.out W hx; go_simp; all_goals rfl)); go_simp; apply hK; clear hK K; (have hq9 : True := trivial); clear hq9))
        apply wpE_nil
        rintro W ⟨hW, hGx⟩
        clear hGx
        by_cases hm0 : m = 0
        · have Hs2 : Hid ((List.range (k + 1)).all (fun i => decide (cntL grid (own.take i) [gat grid (num own i)] = 0)) = true) := hid (by rw [Hst.out, hm0]; rfl)
          subst hm0
          go_wp2_with fail
          go_roundw
          case rel => exact ⟨k + 1, by omega, by go_num, Hs2, hx.tr hW⟩
          case measure => simp [intOf]; omega
        · have hmp : (0 : Int) < (m : Int) := by omega
          have Hb2 := hid (Hbd.out (by omega))
          go_wp2_with fail
          go_ret
          exact ⟨ret_bool Hb2.out.symm, x0.tr (hW1.tr (hx.tr hW))⟩
      · obtain rfl : k = own.length := by omega
        go_wp2_with fail
        go_ret
        exact ⟨ret_bool (by unfold isDiff; exact hno.out.symm), x0.tr (hW1.tr hx)⟩
  · show Calls Tryz.prog 12 _ _ fun e w' => e = .returned (.bool (decide (0 < cntL grid own let_))) ∧ Ext w w'
    go_enter Tryz.func12, Tryz.ntmps12
    go_upto_region 1 with fail
    refine wp_region_sf (fun | 3 => some (SF.icx own) | 7 => some (SF.icx let_) | _ => none) (by kernel_rfl) (by kernel_rfl) ?_
    repeat (first | (refine wpE_skipK ?_ ?_; (focus ((first | refine wanted_notF rfl rfl ?_ | refine wanted_notT rfl rfl ?_); (focus (simp only [List.getElem?_toArray, List.getElem?_cons_succ, List.getElem?_cons_zero]; done)))); intro K hK; go_simp; apply hK; clear hK K; (have hq9 : True := trivial); clear hq9) | (refine wpE_detN rfl rfl (fun K hK => ?_); apply Exists.intro; apply And.intro; (focus (rintro W ⟨hx, -⟩; obtain ⟨-, b0, b1', b2, b3⟩ := HF.out W hx; go_simp; all_goals rfl)); go_simp; apply hK; clear hK K; (have hq9 : True := trivial); clear hq9) | (refine wpE_detK rfl ?_ ?_; (focus (refine wanted_so rfl rfl ?_; (focus (simp only [List.getElem?_toArray, List.getElem?_cons_succ, List.getElem?_cons_zero]; done)))); intro K hK; apply Exists.intro; apply And.intro; (focus (rintro W ⟨hx, -⟩; obtain ⟨-, b0, b1', b2, b3⟩ := HF.out W hx; go_simp; all_goals rfl)); go_simp; apply hK; clear hK K; (have hq9 : True := trivial); clear hq9))
    (first | refine wpE_newN _ rfl rfl ?_ ?_ | (refine wpE_newK _ rfl ?_ ?_ ?_; (focus (refine wanted_so rfl rfl ?_; (focus (simp only [List.getElem?_toArray, List.getElem?_cons_succ, List.getElem?_cons_zero]; done))))))
    · rintro W ⟨hW, -⟩
      go_simp
      refine ⟨Ext.rfl' _, (H1.out W hW).mono fun e W' hr => ?_⟩
      obtain ⟨A', c', rfl, h1, h2, h3⟩ := hr
      exact ⟨_, rfl, h3, A', c', rfl, h1, h2⟩
    rintro _ ⟨_, O, oc, rfl, -, hoc⟩ K hK
    go_simp; apply hK; clear hK K; (have hq9 : True := trivial); clear hq9
    repeat (first | (refine wpE_skipK ?_ ?_; (focus ((first | refine wanted_notF rfl rfl ?_ | refine wanted_notT rfl rfl ?_); (focus (simp only [List.getElem?_toArray, List.getElem?_cons_succ, List.getElem?_cons_zero]; done)))); intro K hK; go_simp; apply hK; clear hK K; (have hq9 : True := trivial); clear hq9) | (refine wpE_detN rfl rfl (fun K hK => ?_); apply Exists.intro; apply And.intro; (focus (rintro W ⟨hx, -⟩; obtain ⟨-, b0, b1', b2, b3⟩ := HF.out W hx; go_simp; all_goals rfl)); go_simp; apply hK; clear hK K; (have hq9 : True := trivial); clear hq9) | (refine wpE_detK rfl ?_ ?_; (focus (refine wanted_so rfl rfl ?_; (focus (simp only [List.getElem?_toArray, List.getElem?_cons_succ, List.getElem?_cons_zero]; done)))); intro K hK; apply Exists.intro; apply And.intro; (focus (rintro W ⟨hx, -⟩; obtain ⟨-, b0, b1', b2, b3⟩ := HF.out W hx; go_simp; all_goals rfl)); go_simp; apply hK; clear hK K; (have hq9 : True := trivial); clear hq9))
    (first | refine wpE_newN _ rfl rfl ?_ ?_ | (refine wpE_newK _ rfl ?_ ?_ ?_; (focus (refine wanted_so rfl rfl ?_; (focus (simp only [List.getElem?_toArray, List.getElem?_cons_succ, List.getElem?_cons_zero]; done))))))
    · rintro W ⟨hW, -⟩
      go_simp
      refine ⟨Ext.rfl' _, (H2.out W hW).mono fun e W' hr => ?_⟩
      obtain ⟨A', c', rfl, h1, h2, h3⟩ := hr
      exact ⟨_, rfl, h3, A', c', rfl, h1, h2⟩
    rintro _ ⟨_, L, lc, rfl, -, -⟩ K hK
    go_simp; apply hK; clear hK K; (have hq9 : True := trivial); clear hq9
    repeat (first | (refine wpE_skipK ?_ ?_; (focus ((first | refine wanted_notF rfl rfl ?_ | refine wanted_notT rfl rfl ?_); (focus (simp only [List.getElem?_toArray, List.getElem?_cons_succ, List.getElem?_cons_zero]; done)))); intro K hK; go_simp; apply hK; clear hK K; (have hq9 : True := trivial); clear hq9) | (refine wpE_detN rfl rfl (fun K hK => ?_); apply Exists.intro; apply And.intro; (focus (rintro W ⟨hx, -⟩; obtain ⟨-, b0, b1', b2, b3⟩ := HF.out W hx; go_simp; all_goals rfl)); go_simp; apply hK; clear hK K; (have hq9 : True := trivial); clear hq9) | (refine wpE_detK rfl ?_ ?_; (focus (refine wanted_so rfl rfl ?_; (focus (simp only [List.getElem?_toArray, List.getElem?_cons_succ, List.getElem?_cons_zero]; done)))); intro K hK; apply Exists.intro; apply And.intro; (focus (rintro W ⟨hx, -⟩; obtain ⟨-, b0, b1', b2, b3⟩ := HF.out W hx; go_simp; all_goals rfl)); go_simp; apply hK; clear hK K; (have hq9 : True := trivial); clear hq9))
    apply wpE_nil
    rintro W1 ⟨hW1, hGx⟩
    obtain ⟨_, _, e1, RO, -⟩ := (hGx 3).1.2 rfl
    cases e1
    obtain ⟨_, _, e2, RL, -⟩ := (hGx 7).2 rfl
    cases e2
    clear hGx
    obtain ⟨-, b0, b1', b2, b3⟩ := HF.out _ hW1
    have hcn := count33_ok W1 G O L gc oc lc grid own let_ (hG.to (x0.tr hW1)) RO RL hidx
    have Hcn := hid hcn; clear hcn
    go_wp2_with (go_at_call 13; refine Hcn.out.mono ?_; rintro e w2 ⟨rfl, hb2⟩)
    go_ret
    exact ⟨ret_bool (by simp), x0.tr (hW1.tr hb2)⟩
  · have hol2 : own.length = 2 := by
      unfold kindC at hkc
      rw [if_neg (by omega), if_neg (by omega), if_pos rfl, decide_eq_true_eq] at hkc
      omega
    have Hol2 := hid hol2; clear hol2
    show Calls Tryz.prog 12 _ _ fun e w' => e = .returned (.bool (decide (n ≤ max (num q.values (gat grid (num own 0)).toNat - num q.values (gat grid (num own 1)).toNat) (num q.values (gat grid (num own 1)).toNat - num q.values (gat grid (num own 0)).toNat)))) ∧ Ext w w'
    have hn0 := num_in hv99 (by decide) (gat grid (num own 0)).toNat
    have hn1 := num_in hv99 (by decide) (gat grid (num own 1)).toNat
    obtain ⟨v0, hv0⟩ : ∃ v, num q.values (gat grid (num own 0)).toNat = v := ⟨_, rfl⟩
    obtain ⟨v1, hv1⟩ : ∃ v, num q.values (gat grid (num own 1)).toNat = v := ⟨_, rfl⟩
    rw [hv0, hv1]
    rw [hv0] at hn0
    rw [hv1] at hn1
    have Hv0 := hid hv0; have Hv1 := hid hv1; clear hv0 hv1
    go_enter Tryz.func12, Tryz.ntmps12
    go_upto_region 1 with fail
    refine wp_region_sf (fun | 3 => some (SF.icx own) | 7 => some (SF.icx let_) | _ => none) (by kernel_rfl) (by kernel_rfl) ?_
    repeat (first | (refine wpE_skipK ?_ ?_; (focus ((first | refine wanted_notF rfl rfl ?_ | refine wanted_notT rfl rfl ?_); (focus (simp only [List.getElem?_toArray, List.getElem?_cons_succ, List.getElem?_cons_zero]; done)))); intro K hK; go_simp; apply hK; clear hK K; (have hq9 : True := trivial); clear hq9) | (refine wpE_detN rfl rfl (fun K hK => ?_); apply Exists.intro; apply And.intro; (focus (rintro W ⟨hx, -⟩; obtain ⟨-, b0, b1', b2, b3⟩ := HF.out W hx; go_simp; all_goals rfl)); go_simp; apply hK; clear hK K; (have hq9 : True := trivial); clear hq9) | (refine wpE_detK rfl ?_ ?_; (focus (refine wanted_so rfl rfl ?_; (focus (simp only [List.getElem?_toArray, List.getElem?_cons_succ, List.getElem?_cons_zero]; done)))); intro K hK; apply Exists.intro; apply And.intro; (focus (rintro W ⟨hx, -⟩; obtain ⟨-, b0, b1', b2, b3⟩ := HF.out W hx; go_simp; all_goals rfl)); go_simp; apply hK; clear hK K; (have hq9 : True := trivial); clear hq9))
    (first | refine wpE_newN _ rfl rfl ?_ ?_ | (refine wpE_newK _ rfl ?_ ?_ ?_; (focus (refine wanted_so rfl rfl ?_; (focus (simp only [List.getElem?_toArray, List.getElem?_cons_succ, List.getElem?_cons_zero]; done))))))
    · rintro W ⟨hW, -⟩
      go_simp
      refine ⟨Ext.rfl' _, (H1.out W hW).mono fun e W' hr => ?_⟩
      obtain ⟨A', c', rfl, h1, h2, h3⟩ := hr
      exact ⟨_, rfl, h3, A', c', rfl, h1, h2⟩
    rintro _ ⟨_, O, oc, rfl, -, hoc⟩ K hK
    go_simp; apply hK; clear hK K; (have hq9 : True := trivial); clear hq9
    repeat (first | (refine wpE_skipK ?_ ?_; (focus ((first | refine wanted_notF rfl rfl ?_ | refine wanted_notT rfl rfl ?_); (focus (simp only [List.getElem?_toArray, List.getElem?_cons_succ, List.getElem?_cons_zero]; done)))); intro K hK; go_simp; apply hK; clear hK K; (have hq9 : True := trivial); clear hq9) | (refine wpE_detN rfl rfl (fun K hK => ?_); apply Exists.intro; apply And.intro; (focus (rintro W ⟨hx, -⟩; obtain ⟨-, b0, b1', b2, b3⟩ := HF.out W hx; go_simp; all_goals rfl)); go_simp; apply hK; clear hK K; (have hq9 : True := trivial); clear hq9) | (refine wpE_detK rfl ?_ ?_; (focus (refine wanted_so rfl rfl ?_; (focus (simp only [List.getElem?_toArray, List.getElem?_cons_succ, List.getElem?_cons_zero]; done)))); intro K hK; apply Exists.intro; apply And.intro; (focus (rintro W ⟨hx, -⟩; obtain ⟨-, b0, b1', b2, b3⟩ := HF.out W hx; go_simp; all_goals rfl)); go_simp; apply hK; clear hK K; (have hq9 : True := trivial); clear hq9))
    (first | refine wpE_newN _ rfl rfl ?_ ?_ | (refine wpE_newK _ rfl ?_ ?_ ?_; (focus (refine wanted_so rfl rfl ?_; (focus (simp only [List.getElem?_toArray, List.getElem?_cons_succ, List.getElem?_cons_zero]; done))))))
    · rintro W ⟨hW, -⟩
      go_simp
      refine ⟨Ext.rfl' _, (H2.out W hW).mono fun e W' hr => ?_⟩
      obtain ⟨A', c', rfl, h1, h2, h3⟩ := hr
      exact ⟨_, rfl, h3, A', c', rfl, h1, h2⟩
    rintro _ ⟨_, L, lc, rfl, -, -⟩ K hK
    go_simp; apply hK; clear hK K; (have hq9 : True := trivial); clear hq9
    repeat (first | (refine wpE_skipK ?_ ?_; (focus ((first | refine wanted_notF rfl rfl ?_ | refine wanted_notT rfl rfl ?_); (focus (simp only [List.getElem?_toArray, List.getElem?_cons_succ, List.getElem?_cons_zero]; done)))); intro K hK; go_simp; apply hK; clear hK K; (have hq9 : True := trivial); clear hq9) | (refine wpE_detN rfl rfl (fun K hK => ?_); apply Exists.intro; apply And.intro; (focus (rintro W ⟨hx, -⟩; obtain ⟨-, b0, b1', b2, b3⟩ := HF.out W hx; go_simp; all_goals rfl)); go_simp; apply hK; clear hK K; (have hq9 : True := trivial); clear hq9) | (refine wpE_detK rfl ?_ ?_; (focus (refine wanted_so rfl rfl ?_; (focus (simp only [List.getElem?_toArray, List.getElem?_cons_succ, List.getElem?_cons_zero]; done)))); intro K hK; apply Exists.intro; apply And.intro; (focus (rintro W ⟨hx, -⟩; obtain ⟨-, b0, b1', b2, b3⟩ := HF.out W hx; go_simp; all_goals rfl)); go_simp; apply hK; clear hK K; (have hq9 : True := trivial); clear hq9))
    apply wpE_nil
    rintro W1 ⟨hW1, hGx⟩
    obtain ⟨_, _, e1, RO, -⟩ := (hGx 3).1.2 rfl
    cases e1
    obtain ⟨_, _, e2, RL, -⟩ := (hGx 7).2 rfl
    cases e2
    clear hGx
    have hcd : 0 < own.length := by have := Hol2.out; omega
    have hce : 1 < own.length := by have := Hol2.out; omega
    have hcf : (1 : Int) < (own.length : Int) := by have := Hol2.out; omega
    obtain ⟨ad, bd, e1, e2, hb0, F0⟩ := gridAt (hG.to (x0.tr hW1)) RO hidx (k := 0) hcd
    subst e1 e2
    obtain ⟨_, _, e1, e2, hb1, F1⟩ := gridAt (hG.to (x0.tr hW1)) RO hidx (k := 1) hce
    cases e1; cases e2
    obtain ⟨vd, e1, hb2, F2⟩ := valAt (hV0.to (x0.tr hW1)) hsV hidx (k := 0) hcd
    subst e1
    obtain ⟨_, e1, hb3, F3⟩ := valAt (hV0.to (x0.tr hW1)) hsV hidx (k := 1) hce
    cases e1
    rw [Hv0.out] at F2
    rw [Hv1.out] at F3
    rw [show bd.add 0 = bd from by simp [Addr.add]] at F0
    rw [add_pos bd 1 (by omega)] at F1
    have HG6 : Hid (∀ V, Ext W1 V → (V.cell? ⟨w.heap.size, 2, none⟩ = some (.slice (some vd) q.values.length pac)) ∧
        (V.cell? bd = some (.int .i64 (num own 0)) ∧ V.cell? (ad.add (num own 0).toNat) = some (.int .i64 (gat grid (num own 0)))) ∧ (V.cell? ⟨bd.block, bd.off + 1, none⟩ = some (.int .i64 (num own 1)) ∧ V.cell? (ad.add (num own 1).toNat) = some (.int .i64 (gat grid (num own 1)))) ∧
        V.cell? (vd.add (gat grid (num own 0)).toNat) = some (.int .i64 v0) ∧ V.cell? (vd.add (gat grid (num own 1)).toNat) = some (.int .i64 v1)) := hid fun V hV => by
      obtain ⟨⟨-, -, q2, -, -⟩, -, -, -, -⟩ := HF.out V (hW1.tr hV)
      exact ⟨q2, F0 V hV, F1 V hV, F2 V hV, F3 V hV⟩
    clear F0 F1 F2 F3
    have w1 : IntKind.i64.wrap (v0 - v1) = v0 - v1 := IntWalk.i64_in _ ⟨by omega, by omega⟩
    have w2 : IntKind.i64.wrap (v1 - v0) = v1 - v0 := IntWalk.i64_in _ ⟨by omega, by omega⟩
    obtain ⟨-, b0, b1', b2, b3⟩ := HF.out _ hW1
    dsimp only at b0 b1' b2 b3
    go_upto_region 13 with fail
    refine wp_region_sf (fun _ => none) (by kernel_rfl) (by kernel_rfl) ?_
    repeat (first | (refine wpE_skipK ?_ ?_; (focus ((first | refine wanted_notF rfl rfl ?_ | refine wanted_notT rfl rfl ?_); (focus (simp only [List.getElem?_toArray, List.getElem?_cons_succ, List.getElem?_cons_zero]; done)))); intro K hK; go_simp; apply hK; clear hK K; (have hq9 : True := trivial); clear hq9) | (refine wpE_detN rfl rfl (fun K hK => ?_); apply Exists.intro; apply And.intro; (focus (rintro W ⟨hx, -⟩; obtain ⟨q2, ⟨c0, d0⟩, ⟨c1, d1⟩, x0', x1'⟩ := HG6.out W hx; go_simp; all_goals rfl)); go_simp; apply hK; clear hK K; (have hq9 : True := trivial); clear hq9) | (refine wpE_detK rfl ?_ ?_; (focus (refine wanted_so rfl rfl ?_; (focus (simp only [List.getElem?_toArray, List.getElem?_cons_succ, List.getElem?_cons_zero]; done)))); intro K hK; apply Exists.intro; apply And.intro; (focus (rintro W ⟨hx, -⟩; obtain ⟨q2, ⟨c0, d0⟩, ⟨c1, d1⟩, x0', x1'⟩ := HG6.out W hx; go_simp; all_goals rfl)); go_simp; apply hK; clear hK K; (have hq9 : True := trivial); clear hq9))
    apply wpE_nil
    rintro W ⟨hW, hGx⟩
    clear hGx b0 b1' b2 b3
    obtain ⟨-, b0, b1', b2, b3⟩ := HF.out _ (hW1.tr hW)
    dsimp only at b0 b1' b2 b3
    go_wp2_with fail
    go_ret
    exact ⟨rfl, x0.tr (hW1.tr hW)⟩
  · show Calls Tryz.prog 12 _ _ fun e w' => e = .returned (.bool (isRise q grid own)) ∧ Ext w w'
    go_enter Tryz.func12, Tryz.ntmps12
    go_upto_region 1 with fail
    refine wp_region_sf (fun | 3 => some (SF.icx own) | 7 => some (SF.icx let_) | _ => none) (by kernel_rfl) (by kernel_rfl) ?_
    repeat (first | (refine wpE_skipK ?_ ?_; (focus ((first | refine wanted_notF rfl rfl ?_ | refine wanted_notT rfl rfl ?_); (focus (simp only [List.getElem?_toArray, List.getElem?_cons_succ, List.getElem?_cons_zero]; done)))); intro K hK; go_simp; apply hK; clear hK K; (have hq9 : True := trivial); clear hq9) | (refine wpE_detN rfl rfl (fun K hK => ?_); apply Exists.intro; apply And.intro; (focus (rintro W ⟨hx, -⟩; obtain ⟨-, b0, b1', b2, b3⟩ := HF.out W hx; go_simp; all_goals rfl)); go_simp; apply hK; clear hK K; (have hq9 : True := trivial); clear hq9) | (refine wpE_detK rfl ?_ ?_; (focus (refine wanted_so rfl rfl ?_; (focus (simp only [List.getElem?_toArray, List.getElem?_cons_succ, List.getElem?_cons_zero]; done)))); intro K hK; apply Exists.intro; apply And.intro; (focus (rintro W ⟨hx, -⟩; obtain ⟨-, b0, b1', b2, b3⟩ := HF.out W hx; go_simp; all_goals rfl)); go_simp; apply hK; clear hK K; (have hq9 : True := trivial); clear hq9))
    (first | refine wpE_newN _ rfl rfl ?_ ?_ | (refine wpE_newK _ rfl ?_ ?_ ?_; (focus (refine wanted_so rfl rfl ?_; (focus (simp only [List.getElem?_toArray, List.getElem?_cons_succ, List.getElem?_cons_zero]; done))))))
    · rintro W ⟨hW, -⟩
      go_simp
      refine ⟨Ext.rfl' _, (H1.out W hW).mono fun e W' hr => ?_⟩
      obtain ⟨A', c', rfl, h1, h2, h3⟩ := hr
      exact ⟨_, rfl, h3, A', c', rfl, h1, h2⟩
    rintro _ ⟨_, O, oc, rfl, -, hoc⟩ K hK
    go_simp; apply hK; clear hK K; (have hq9 : True := trivial); clear hq9
    repeat (first | (refine wpE_skipK ?_ ?_; (focus ((first | refine wanted_notF rfl rfl ?_ | refine wanted_notT rfl rfl ?_); (focus (simp only [List.getElem?_toArray, List.getElem?_cons_succ, List.getElem?_cons_zero]; done)))); intro K hK; go_simp; apply hK; clear hK K; (have hq9 : True := trivial); clear hq9) | (refine wpE_detN rfl rfl (fun K hK => ?_); apply Exists.intro; apply And.intro; (focus (rintro W ⟨hx, -⟩; obtain ⟨-, b0, b1', b2, b3⟩ := HF.out W hx; go_simp; all_goals rfl)); go_simp; apply hK; clear hK K; (have hq9 : True := trivial); clear hq9) | (refine wpE_detK rfl ?_ ?_; (focus (refine wanted_so rfl rfl ?_; (focus (simp only [List.getElem?_toArray, List.getElem?_cons_succ, List.getElem?_cons_zero]; done)))); intro K hK; apply Exists.intro; apply And.intro; (focus (rintro W ⟨hx, -⟩; obtain ⟨-, b0, b1', b2, b3⟩ := HF.out W hx; go_simp; all_goals rfl)); go_simp; apply hK; clear hK K; (have hq9 : True := trivial); clear hq9))
    (first | refine wpE_newN _ rfl rfl ?_ ?_ | (refine wpE_newK _ rfl ?_ ?_ ?_; (focus (refine wanted_so rfl rfl ?_; (focus (simp only [List.getElem?_toArray, List.getElem?_cons_succ, List.getElem?_cons_zero]; done))))))
    · rintro W ⟨hW, -⟩
      go_simp
      refine ⟨Ext.rfl' _, (H2.out W hW).mono fun e W' hr => ?_⟩
      obtain ⟨A', c', rfl, h1, h2, h3⟩ := hr
      exact ⟨_, rfl, h3, A', c', rfl, h1, h2⟩
    rintro _ ⟨_, L, lc, rfl, -, -⟩ K hK
    go_simp; apply hK; clear hK K; (have hq9 : True := trivial); clear hq9
    repeat (first | (refine wpE_skipK ?_ ?_; (focus ((first | refine wanted_notF rfl rfl ?_ | refine wanted_notT rfl rfl ?_); (focus (simp only [List.getElem?_toArray, List.getElem?_cons_succ, List.getElem?_cons_zero]; done)))); intro K hK; go_simp; apply hK; clear hK K; (have hq9 : True := trivial); clear hq9) | (refine wpE_detN rfl rfl (fun K hK => ?_); apply Exists.intro; apply And.intro; (focus (rintro W ⟨hx, -⟩; obtain ⟨-, b0, b1', b2, b3⟩ := HF.out W hx; go_simp; all_goals rfl)); go_simp; apply hK; clear hK K; (have hq9 : True := trivial); clear hq9) | (refine wpE_detK rfl ?_ ?_; (focus (refine wanted_so rfl rfl ?_; (focus (simp only [List.getElem?_toArray, List.getElem?_cons_succ, List.getElem?_cons_zero]; done)))); intro K hK; apply Exists.intro; apply And.intro; (focus (rintro W ⟨hx, -⟩; obtain ⟨-, b0, b1', b2, b3⟩ := HF.out W hx; go_simp; all_goals rfl)); go_simp; apply hK; clear hK K; (have hq9 : True := trivial); clear hq9))
    apply wpE_nil
    rintro W1 ⟨hW1, hGx⟩
    obtain ⟨_, _, e1, RO, -⟩ := (hGx 3).1.2 rfl
    cases e1
    obtain ⟨_, _, e2, RL, -⟩ := (hGx 7).2 rfl
    cases e2
    clear hGx
    have hol := RO.len
    obtain ⟨⟨-, -, a2, -, -⟩, b0, b1', b2, b3⟩ := HF.out _ hW1
    dsimp only at a2 b0 b1' b2 b3
    go_wp2_with fail
    go_loopw [17] (fun i wr => ∃ k : Nat, 0 < k ∧ (k ≤ own.length ∨ k = 1) ∧ i = .int .i64 k ∧ Hid ((List.range k).all (fun i => i == 0 || decide (valOf q grid (num own (i - 1)) < valOf q grid (num own i))) = true) ∧ Ext W1 wr) (fun i _ => own.length - (intOf i).toNat)
    case atStart => exact ⟨1, by decide, .inr rfl, rfl, rfl, Ext.rfl' _⟩
    case round =>
      obtain ⟨k, hk0, hk, rfl, hno, hx⟩ := hrel
      obtain ⟨m, rfl⟩ : ∃ m, k = m + 1 := ⟨k - 1, by omega⟩
      have y1 := x0.tr (hW1.tr hx)
      by_cases hlt : m + 1 < own.length
      · obtain ⟨ad, bd, e1, e2, hb1, F1⟩ := gridAt (hG.to y1) (RO.to hx) hidx hlt
        subst e1 e2
        obtain ⟨_, _, e1, e2, hb2, F2⟩ := gridAt (hG.to y1) (RO.to hx) hidx (k := m) (by omega)
        cases e1; cases e2
        obtain ⟨vd, e1, hb3, F3⟩ := valAt (hV0.to y1) hsV hidx hlt
        subst e1
        obtain ⟨_, e1, hb4, F4⟩ := valAt (hV0.to y1) hsV hidx (k := m) (by omega)
        cases e1
        rw [add_pos bd (m + 1) (by omega)] at F1
        have HF9 : Hid (∀ W, Ext wr W → W.cell? ⟨w.heap.size, 2, none⟩ = some (.slice (some vd) q.values.length pac) ∧ ((W.cell? ⟨bd.block, bd.off + (m + 1), none⟩ = some (.int .i64 (num own (m + 1))) ∧ W.cell? (ad.add (num own (m + 1)).toNat) = some (.int .i64 (gat grid (num own (m + 1))))) ∧ W.cell? (bd.add m) = some (.int .i64 (num own m)) ∧ W.cell? (ad.add (num own m).toNat) = some (.int .i64 (gat grid (num own m)))) ∧
            W.cell? (vd.add (gat grid (num own (m + 1))).toNat) = some (.int .i64 (num q.values (gat grid (num own (m + 1))).toNat)) ∧ W.cell? (vd.add (gat grid (num own m)).toNat) = some (.int .i64 (num q.values (gat grid (num own m)).toNat))) := hid fun W hW => ⟨(HF.out W (hW1.tr (hx.tr hW))).1.2.2.1, ⟨F1 W hW, F2 W hW⟩, F3 W hW, F4 W hW⟩
        clear F1 F2 F3 F4
        have hm1 : m < own.length := by omega
        have hm3 : IntKind.i64.wrap (m : Int) = m := IntWalk.i64_in _ ⟨by omega, by omega⟩
        have hst := rall_succ (fun i => i == 0 || decide (valOf q grid (num own (i - 1)) < valOf q grid (num own i))) (m + 1)
        rw [hno.out, Bool.true_and] at hst
        have hz : (m + 1 == 0) = false := by simp
        rw [hz, Bool.false_or, Nat.add_sub_cancel] at hst
        have hbad : ¬ (valOf q grid (num own m) < valOf q grid (num own (m + 1))) → isRise q grid own = false := fun he => by
          refine rall_bad hlt ?_
          rw [hz, Bool.false_or, Nat.add_sub_cancel, decide_eq_false he]
        have va : valOf q grid (num own (m + 1)) = num q.values (gat grid (num own (m + 1))).toNat := rfl
        have vb : valOf q grid (num own m) = num q.values (gat grid (num own m)).toNat := rfl
        rw [va, vb] at hst hbad
        have Hst := hid hst; have Hbad := hid hbad; clear hst hbad va vb hz
        by_cases he : num q.values (gat grid (num own m)).toNat < num q.values (gat grid (num own (m + 1))).toNat
        · have Hs : Hid ((List.range (m + 1 + 1)).all (fun i => i == 0 || decide (valOf q grid (num own (i - 1)) < valOf q grid (num own i))) = true) := hid (by rw [Hst.out, decide_eq_true he])
          go_wp2_with fail
          (refine wp_region_sf (fun _ => none) (by kernel_rfl) (by kernel_rfl) ?_); (repeat (first | (refine wpE_skipK ?_ ?_; (focus ((first | refine wanted_notF rfl rfl ?_ | refine wanted_notT rfl rfl ?_); (focus (simp only [List.getElem?_toArray, List.getElem?_cons_succ, List.getElem?_cons_zero]; done)))); intro K hK; go_simp; apply hK; clear hK K; (have hq9 : True := trivial); clear hq9) | (refine wpE_detN rfl rfl (fun K hK => ?_); apply Exists.intro; apply And.intro; (focus (rintro W ⟨hx, -⟩; obtain ⟨a0, ⟨⟨f0, f1⟩, f2, f3⟩, f4, f5⟩ := HF9.out W hx; go_simp; all_goals rfl)); go_simp; apply hK; clear hK K; (have hq9 : True := trivial); clear hq9) | (refine wpE_detK rfl ?_ ?_; (focus (refine wanted_so rfl rfl ?_; (focus (simp only [List.getElem?_toArray, List.getElem?_cons_succ, List.getElem?_cons_zero]; done)))); intro K hK; apply Exists.intro; apply And.intro; (focus (rintro W ⟨hx, -⟩; obtain ⟨a0, ⟨⟨f0, f1⟩, f2, f3⟩, f4, f5⟩ := HF9.out W hx; go_simp; all_goals rfl)); go_simp; apply hK; clear hK K; (have hq9 : True := trivial); clear hq9))); (apply wpE_nil); (rintro W ⟨hW, hG⟩); clear hG
          go_wp2_with fail
          go_roundw
          case rel => exact ⟨m + 1 + 1, by omega, .inl (by omega), by go_num, Hs, hx.tr hW⟩
          case measure => simp [intOf]; omega
        · have Hb := hid (Hbad.out he)
          have he2 : num q.values (gat grid (num own (m + 1))).toNat ≤ num q.values (gat grid (num own m)).toNat := by omega
          go_wp2_with fail
          (refine wp_region_sf (fun _ => none) (by kernel_rfl) (by kernel_rfl) ?_); (repeat (first | (refine wpE_skipK ?_ ?_; (focus ((first | refine wanted_notF rfl rfl ?_ | refine wanted_notT rfl rfl ?_); (focus (simp only [List.getElem?_toArray, List.getElem?_cons_succ, List.getElem?_cons_zero]; done)))); intro K hK; go_simp; apply hK; clear hK K; (have hq9 : True := trivial); clear hq9) | (refine wpE_detN rfl rfl (fun K hK => ?_); apply Exists.intro; apply And.intro; (focus (rintro W ⟨hx, -⟩; obtain ⟨a0, ⟨⟨f0, f1⟩, f2, f3⟩, f4, f5⟩ := HF9.out W hx; go_simp; all_goals rfl)); go_simp; apply hK; clear hK K; (have hq9 : True := trivial); clear hq9) | (refine wpE_detK rfl ?_ ?_; (focus (refine wanted_so rfl rfl ?_; (focus (simp only [List.getElem?_toArray, List.getElem?_cons_succ, List.getElem?_cons_zero]; done)))); intro K hK; apply Exists.intro; apply And.intro; (focus (rintro W ⟨hx, -⟩; obtain ⟨a0, ⟨⟨f0, f1⟩, f2, f3⟩, f4, f5⟩ := HF9.out W hx; go_simp; all_goals rfl)); go_simp; apply hK; clear hK K; (have hq9 : True := trivial); clear hq9))); (apply wpE_nil); (rintro W ⟨hW, hG⟩); clear hG
          go_wp2_with fail
          go_ret
          exact ⟨ret_bool Hb.out.symm, x0.tr (hW1.tr (hx.tr hW))⟩
      · have hend : isRise q grid own = true := by
          unfold isRise
          rw [List.all_eq_true]
          intro i hi2
          have h1 := List.mem_range.1 hi2
          exact List.all_eq_true.1 hno.out i (List.mem_range.2 (by omega))
        have He := hid hend; clear hend
        go_wp2_with fail
        go_ret
        exact ⟨ret_bool He.out.symm, x0.tr (hW1.tr hx)⟩
  · have hol2 : own.length = 2 := by
      unfold kindC at hkc
      rw [if_neg (by omega), if_neg (by omega), if_neg (by omega), if_pos rfl, decide_eq_true_eq] at hkc
      omega
    show Calls Tryz.prog 12 _ _ fun e w' => e = .returned (.bool (memB (row q.neighbors (num own 0).toNat) (num own 1))) ∧ Ext w w'
    go_enter Tryz.func12, Tryz.ntmps12
    go_upto_region 1 with fail
    refine wp_region_sf (fun | 3 => some (SF.icx own) | 7 => some (SF.icx let_) | _ => none) (by kernel_rfl) (by kernel_rfl) ?_
    repeat (first | (refine wpE_skipK ?_ ?_; (focus ((first | refine wanted_notF rfl rfl ?_ | refine wanted_notT rfl rfl ?_); (focus (simp only [List.getElem?_toArray, List.getElem?_cons_succ, List.getElem?_cons_zero]; done)))); intro K hK; go_simp; apply hK; clear hK K; (have hq9 : True := trivial); clear hq9) | (refine wpE_detN rfl rfl (fun K hK => ?_); apply Exists.intro; apply And.intro; (focus (rintro W ⟨hx, -⟩; obtain ⟨-, b0, b1', b2, b3⟩ := HF.out W hx; go_simp; all_goals rfl)); go_simp; apply hK; clear hK K; (have hq9 : True := trivial); clear hq9) | (refine wpE_detK rfl ?_ ?_; (focus (refine wanted_so rfl rfl ?_; (focus (simp only [List.getElem?_toArray, List.getElem?_cons_succ, List.getElem?_cons_zero]; done)))); intro K hK; apply Exists.intro; apply And.intro; (focus (rintro W ⟨hx, -⟩; obtain ⟨-, b0, b1', b2, b3⟩ := HF.out W hx; go_simp; all_goals rfl)); go_simp; apply hK; clear hK K; (have hq9 : True := trivial); clear hq9))
    (first | refine wpE_newN _ rfl rfl ?_ ?_ | (refine wpE_newK _ rfl ?_ ?_ ?_; (focus (refine wanted_so rfl rfl ?_; (focus (simp only [List.getElem?_toArray, List.getElem?_cons_succ, List.getElem?_cons_zero]; done))))))
    · rintro W ⟨hW, -⟩
      go_simp
      refine ⟨Ext.rfl' _, (H1.out W hW).mono fun e W' hr => ?_⟩
      obtain ⟨A', c', rfl, h1, h2, h3⟩ := hr
      exact ⟨_, rfl, h3, A', c', rfl, h1, h2⟩
    rintro _ ⟨_, O, oc, rfl, -, hoc⟩ K hK
    go_simp; apply hK; clear hK K; (have hq9 : True := trivial); clear hq9
    repeat (first | (refine wpE_skipK ?_ ?_; (focus ((first | refine wanted_notF rfl rfl ?_ | refine wanted_notT rfl rfl ?_); (focus (simp only [List.getElem?_toArray, List.getElem?_cons_succ, List.getElem?_cons_zero]; done)))); intro K hK; go_simp; apply hK; clear hK K; (have hq9 : True := trivial); clear hq9) | (refine wpE_detN rfl rfl (fun K hK => ?_); apply Exists.intro; apply And.intro; (focus (rintro W ⟨hx, -⟩; obtain ⟨-, b0, b1', b2, b3⟩ := HF.out W hx; go_simp; all_goals rfl)); go_simp; apply hK; clear hK K; (have hq9 : True := trivial); clear hq9) | (refine wpE_detK rfl ?_ ?_; (focus (refine wanted_so rfl rfl ?_; (focus (simp only [List.getElem?_toArray, List.getElem?_cons_succ, List.getElem?_cons_zero]; done)))); intro K hK; apply Exists.intro; apply And.intro; (focus (rintro W ⟨hx, -⟩; obtain ⟨-, b0, b1', b2, b3⟩ := HF.out W hx; go_simp; all_goals rfl)); go_simp; apply hK; clear hK K; (have hq9 : True := trivial); clear hq9))
    (first | refine wpE_newN _ rfl rfl ?_ ?_ | (refine wpE_newK _ rfl ?_ ?_ ?_; (focus (refine wanted_so rfl rfl ?_; (focus (simp only [List.getElem?_toArray, List.getElem?_cons_succ, List.getElem?_cons_zero]; done))))))
    · rintro W ⟨hW, -⟩
      go_simp
      refine ⟨Ext.rfl' _, (H2.out W hW).mono fun e W' hr => ?_⟩
      obtain ⟨A', c', rfl, h1, h2, h3⟩ := hr
      exact ⟨_, rfl, h3, A', c', rfl, h1, h2⟩
    rintro _ ⟨_, L, lc, rfl, -, -⟩ K hK
    go_simp; apply hK; clear hK K; (have hq9 : True := trivial); clear hq9
    repeat (first | (refine wpE_skipK ?_ ?_; (focus ((first | refine wanted_notF rfl rfl ?_ | refine wanted_notT rfl rfl ?_); (focus (simp only [List.getElem?_toArray, List.getElem?_cons_succ, List.getElem?_cons_zero]; done)))); intro K hK; go_simp; apply hK; clear hK K; (have hq9 : True := trivial); clear hq9) | (refine wpE_detN rfl rfl (fun K hK => ?_); apply Exists.intro; apply And.intro; (focus (rintro W ⟨hx, -⟩; obtain ⟨-, b0, b1', b2, b3⟩ := HF.out W hx; go_simp; all_goals rfl)); go_simp; apply hK; clear hK K; (have hq9 : True := trivial); clear hq9) | (refine wpE_detK rfl ?_ ?_; (focus (refine wanted_so rfl rfl ?_; (focus (simp only [List.getElem?_toArray, List.getElem?_cons_succ, List.getElem?_cons_zero]; done)))); intro K hK; apply Exists.intro; apply And.intro; (focus (rintro W ⟨hx, -⟩; obtain ⟨-, b0, b1', b2, b3⟩ := HF.out W hx; go_simp; all_goals rfl)); go_simp; apply hK; clear hK K; (have hq9 : True := trivial); clear hq9))
    apply wpE_nil
    rintro W1 ⟨hW1, hGx⟩
    obtain ⟨_, _, e1, RO, -⟩ := (hGx 3).1.2 rfl
    cases e1
    obtain ⟨_, _, e2, RL, -⟩ := (hGx 7).2 rfl
    cases e2
    clear hGx
    obtain ⟨cd, rfl, hcb, hcc, _⟩ := RO.num (by omega)
    have h0i := hidx (num own 0) (by rw [num_eq (by omega)]; exact List.getElem_mem _)
    have hc0 := hcc 0 (by omega)
    have hc1 := hcc 1 (by omega)
    rw [show cd.add 0 = cd from by simp [Addr.add]] at hc0
    rw [add_pos _ _ (by omega)] at hc1
    obtain ⟨nd, B1, bn, hA1, hnb, hnc, hnr⟩ := (hN0.to (x0.tr hW1)).rowAt (num own 0).toNat (by have := Hnl.out; omega)
    subst hA1
    have HF2 : Hid (∀ V, Ext W1 V → V.cell? ⟨w.heap.size, 3, none⟩ = some (.slice (some nd) q.neighbors.length pbc) ∧ V.cell? cd = some (.int .i64 (num own 0)) ∧ V.cell? ⟨cd.block, cd.off + 1, none⟩ = some (.int .i64 (num own 1)) ∧
        V.cell? (nd.add (num own 0).toNat) = some (.slice B1 (row q.neighbors (num own 0).toNat).length bn)) := hid fun V hV =>
      ⟨(HF.out V (hW1.tr hV)).1.2.2.2.1, cellE hV hc0 hcb, cellE hV hc1 hcb, cellE hV hnc (by rw [block_of_add]; exact hnb)⟩
    clear hcc hc0 hc1 hnc
    have hn0 : 0 < own.length := by omega
    have hn1 : 1 < own.length := by omega
    have hni0 : 0 ≤ num own 0 := h0i.1
    have hni1 : num own 0 < q.neighbors.length := by have := Hnl.out; omega
    have Hol2 := hid hol2; clear hol2
    obtain ⟨-, b0, b1', b2, b3⟩ := HF.out _ hW1
    dsimp only at b0 b1' b2 b3
    go_upto_region 22 with fail
    (refine wp_region_sf (fun | 10 => some (SF.val (.bool (memB (row q.neighbors (num own 0).toNat) (num own 1)))) | _ => none) (by kernel_rfl) (by kernel_rfl) ?_); (repeat (first | (refine wpE_skipK ?_ ?_; (focus ((first | refine wanted_notF rfl rfl ?_ | refine wanted_notT rfl rfl ?_); (focus (simp only [List.getElem?_toArray, List.getElem?_cons_succ, List.getElem?_cons_zero]; done)))); intro K hK; go_simp; apply hK; clear hK K; (have hq9 : True := trivial); clear hq9) | (refine wpE_detN rfl rfl (fun K hK => ?_); apply Exists.intro; apply And.intro; (focus (rintro W ⟨hx, -⟩; obtain ⟨g0, g1, g2, g3⟩ := HF2.out W hx; go_simp; all_goals rfl)); go_simp; apply hK; clear hK K; (have hq9 : True := trivial); clear hq9) | (refine wpE_detK rfl ?_ ?_; (focus (refine wanted_so rfl rfl ?_; (focus (simp only [List.getElem?_toArray, List.getElem?_cons_succ, List.getElem?_cons_zero]; done)))); intro K hK; apply Exists.intro; apply And.intro; (focus (rintro W ⟨hx, -⟩; obtain ⟨g0, g1, g2, g3⟩ := HF2.out W hx; go_simp; all_goals rfl)); go_simp; apply hK; clear hK K; (have hq9 : True := trivial); clear hq9))); (first | refine wpE_newN _ rfl rfl ?_ ?_ | (refine wpE_newK _ rfl ?_ ?_ ?_; (focus (refine wanted_so rfl rfl ?_; (focus (simp only [List.getElem?_toArray, List.getElem?_cons_succ, List.getElem?_cons_zero]; done)))))); (focus (rintro W ⟨hW, -⟩; go_simp; exact ⟨Ext.rfl' _, (in13_n W B1 bn _ _ rfl (hnr.to hW) (num own 1)).mono fun e W' ⟨he, hb⟩ => ⟨_, he, hb, rfl⟩⟩)); (rintro _ ⟨_, rfl⟩ K hK); (go_simp; apply hK; clear hK K; (have hq9 : True := trivial); clear hq9); (repeat (first | (refine wpE_skipK ?_ ?_; (focus ((first | refine wanted_notF rfl rfl ?_ | refine wanted_notT rfl rfl ?_); (focus (simp only [List.getElem?_toArray, List.getElem?_cons_succ, List.getElem?_cons_zero]; done)))); intro K hK; go_simp; apply hK; clear hK K; (have hq9 : True := trivial); clear hq9) | (refine wpE_detN rfl rfl (fun K hK => ?_); apply Exists.intro; apply And.intro; (focus (rintro W ⟨hx, -⟩; obtain ⟨g0, g1, g2, g3⟩ := HF2.out W hx; go_simp; all_goals rfl)); go_simp; apply hK; clear hK K; (have hq9 : True := trivial); clear hq9) | (refine wpE_detK rfl ?_ ?_; (focus (refine wanted_so rfl rfl ?_; (focus (simp only [List.getElem?_toArray, List.getElem?_cons_succ, List.getElem?_cons_zero]; done)))); intro K hK; apply Exists.intro; apply And.intro; (focus (rintro W ⟨hx, -⟩; obtain ⟨g0, g1, g2, g3⟩ := HF2.out W hx; go_simp; all_goals rfl)); go_simp; apply hK; clear hK K; (have hq9 : True := trivial); clear hq9))); (apply wpE_nil); (rintro W ⟨hW, hG⟩); clear hG
    go_wp2_with fail
    go_ret
    exact ⟨rfl, x0.tr (hW1.tr hW)⟩
  · show Calls Tryz.prog 12 _ _ fun e w' => e = .returned (.bool (decide ((cntL grid own let_ : Int) = n))) ∧ Ext w w'
    go_enter Tryz.func12, Tryz.ntmps12
    go_upto_region 1 with fail
    refine wp_region_sf (fun | 3 => some (SF.icx own) | 7 => some (SF.icx let_) | _ => none) (by kernel_rfl) (by kernel_rfl) ?_
    repeat (first | (refine wpE_skipK ?_ ?_; (focus ((first | refine wanted_notF rfl rfl ?_ | refine wanted_notT rfl rfl ?_); (focus (simp only [List.getElem?_toArray, List.getElem?_cons_succ, List.getElem?_cons_zero]; done)))); intro K hK; go_simp; apply hK; clear hK K; (have hq9 : True := trivial); clear hq9) | (refine wpE_detN rfl rfl (fun K hK => ?_); apply Exists.intro; apply And.intro; (focus (rintro W ⟨hx, -⟩; obtain ⟨-, b0, b1', b2, b3⟩ := HF.out W hx; go_simp; all_goals rfl)); go_simp; apply hK; clear hK K; (have hq9 : True := trivial); clear hq9) | (refine wpE_detK rfl ?_ ?_; (focus (refine wanted_so rfl rfl ?_; (focus (simp only [List.getElem?_toArray, List.getElem?_cons_succ, List.getElem?_cons_zero]; done)))); intro K hK; apply Exists.intro; apply And.intro; (focus (rintro W ⟨hx, -⟩; obtain ⟨-, b0, b1', b2, b3⟩ := HF.out W hx; go_simp; all_goals rfl)); go_simp; apply hK; clear hK K; (have hq9 : True := trivial); clear hq9))
    (first | refine wpE_newN _ rfl rfl ?_ ?_ | (refine wpE_newK _ rfl ?_ ?_ ?_; (focus (refine wanted_so rfl rfl ?_; (focus (simp only [List.getElem?_toArray, List.getElem?_cons_succ, List.getElem?_cons_zero]; done))))))
    · rintro W ⟨hW, -⟩
      go_simp
      refine ⟨Ext.rfl' _, (H1.out W hW).mono fun e W' hr => ?_⟩
      obtain ⟨A', c', rfl, h1, h2, h3⟩ := hr
      exact ⟨_, rfl, h3, A', c', rfl, h1, h2⟩
    rintro _ ⟨_, O, oc, rfl, -, hoc⟩ K hK
    go_simp; apply hK; clear hK K; (have hq9 : True := trivial); clear hq9
    repeat (first | (refine wpE_skipK ?_ ?_; (focus ((first | refine wanted_notF rfl rfl ?_ | refine wanted_notT rfl rfl ?_); (focus (simp only [List.getElem?_toArray, List.getElem?_cons_succ, List.getElem?_cons_zero]; done)))); intro K hK; go_simp; apply hK; clear hK K; (have hq9 : True := trivial); clear hq9) | (refine wpE_detN rfl rfl (fun K hK => ?_); apply Exists.intro; apply And.intro; (focus (rintro W ⟨hx, -⟩; obtain ⟨-, b0, b1', b2, b3⟩ := HF.out W hx; go_simp; all_goals rfl)); go_simp; apply hK; clear hK K; (have hq9 : True := trivial); clear hq9) | (refine wpE_detK rfl ?_ ?_; (focus (refine wanted_so rfl rfl ?_; (focus (simp only [List.getElem?_toArray, List.getElem?_cons_succ, List.getElem?_cons_zero]; done)))); intro K hK; apply Exists.intro; apply And.intro; (focus (rintro W ⟨hx, -⟩; obtain ⟨-, b0, b1', b2, b3⟩ := HF.out W hx; go_simp; all_goals rfl)); go_simp; apply hK; clear hK K; (have hq9 : True := trivial); clear hq9))
    (first | refine wpE_newN _ rfl rfl ?_ ?_ | (refine wpE_newK _ rfl ?_ ?_ ?_; (focus (refine wanted_so rfl rfl ?_; (focus (simp only [List.getElem?_toArray, List.getElem?_cons_succ, List.getElem?_cons_zero]; done))))))
    · rintro W ⟨hW, -⟩
      go_simp
      refine ⟨Ext.rfl' _, (H2.out W hW).mono fun e W' hr => ?_⟩
      obtain ⟨A', c', rfl, h1, h2, h3⟩ := hr
      exact ⟨_, rfl, h3, A', c', rfl, h1, h2⟩
    rintro _ ⟨_, L, lc, rfl, -, -⟩ K hK
    go_simp; apply hK; clear hK K; (have hq9 : True := trivial); clear hq9
    repeat (first | (refine wpE_skipK ?_ ?_; (focus ((first | refine wanted_notF rfl rfl ?_ | refine wanted_notT rfl rfl ?_); (focus (simp only [List.getElem?_toArray, List.getElem?_cons_succ, List.getElem?_cons_zero]; done)))); intro K hK; go_simp; apply hK; clear hK K; (have hq9 : True := trivial); clear hq9) | (refine wpE_detN rfl rfl (fun K hK => ?_); apply Exists.intro; apply And.intro; (focus (rintro W ⟨hx, -⟩; obtain ⟨-, b0, b1', b2, b3⟩ := HF.out W hx; go_simp; all_goals rfl)); go_simp; apply hK; clear hK K; (have hq9 : True := trivial); clear hq9) | (refine wpE_detK rfl ?_ ?_; (focus (refine wanted_so rfl rfl ?_; (focus (simp only [List.getElem?_toArray, List.getElem?_cons_succ, List.getElem?_cons_zero]; done)))); intro K hK; apply Exists.intro; apply And.intro; (focus (rintro W ⟨hx, -⟩; obtain ⟨-, b0, b1', b2, b3⟩ := HF.out W hx; go_simp; all_goals rfl)); go_simp; apply hK; clear hK K; (have hq9 : True := trivial); clear hq9))
    apply wpE_nil
    rintro W1 ⟨hW1, hGx⟩
    obtain ⟨_, _, e1, RO, -⟩ := (hGx 3).1.2 rfl
    cases e1
    obtain ⟨_, _, e2, RL, -⟩ := (hGx 7).2 rfl
    cases e2
    clear hGx
    have hcn := fun W (hW : Ext W1 W) => count33_ok W G O L gc oc lc grid own let_ (hG.to (x0.tr (hW1.tr hW))) (RO.to hW) (RL.to hW) hidx
    have Hcn := hid hcn; clear hcn
    have HF2 : Hid (∀ V, Ext W1 V → V.cell? ⟨w.heap.size + 1, 3, none⟩ = some (.int .i64 n)) := hid fun V hV => (HF.out V (hW1.tr hV)).2.2.2.2
    obtain ⟨-, b0, b1', b2, b3⟩ := HF.out _ hW1
    dsimp only at b0 b1' b2 b3
    go_upto_region 24 with fail
    (refine wp_region_sf (fun | 3 => some (SF.val (.int .i64 (cntL grid own let_ : Int))) | _ => none) (by kernel_rfl) (by kernel_rfl) ?_); (repeat (first | (refine wpE_skipK ?_ ?_; (focus ((first | refine wanted_notF rfl rfl ?_ | refine wanted_notT rfl rfl ?_); (focus (simp only [List.getElem?_toArray, List.getElem?_cons_succ, List.getElem?_cons_zero]; done)))); intro K hK; go_simp; apply hK; clear hK K; (have hq9 : True := trivial); clear hq9) | (refine wpE_detN rfl rfl (fun K hK => ?_); apply Exists.intro; apply And.intro; (focus (rintro W ⟨hx, -⟩; obtain q0 := HF2.out W hx; go_simp; all_goals rfl)); go_simp; apply hK; clear hK K; (have hq9 : True := trivial); clear hq9) | (refine wpE_detK rfl ?_ ?_; (focus (refine wanted_so rfl rfl ?_; (focus (simp only [List.getElem?_toArray, List.getElem?_cons_succ, List.getElem?_cons_zero]; done)))); intro K hK; apply Exists.intro; apply And.intro; (focus (rintro W ⟨hx, -⟩; obtain q0 := HF2.out W hx; go_simp; all_goals rfl)); go_simp; apply hK; clear hK K; (have hq9 : True := trivial); clear hq9))); (first | refine wpE_newN _ rfl rfl ?_ ?_ | (refine wpE_newK _ rfl ?_ ?_ ?_; (focus (refine wanted_so rfl rfl ?_; (focus (simp only [List.getElem?_toArray, List.getElem?_cons_succ, List.getElem?_cons_zero]; done)))))); (focus (rintro W ⟨hW, -⟩; go_simp; exact ⟨Ext.rfl' _, (Hcn.out W hW).mono fun e W' ⟨he, hb⟩ => ⟨_, he, hb, rfl⟩⟩)); (rintro _ ⟨_, rfl⟩ K hK); (go_simp; apply hK; clear hK K; (have hq9 : True := trivial); clear hq9); (repeat (first | (refine wpE_skipK ?_ ?_; (focus ((first | refine wanted_notF rfl rfl ?_ | refine wanted_notT rfl rfl ?_); (focus (simp only [List.getElem?_toArray, List.getElem?_cons_succ, List.getElem?_cons_zero]; done)))); intro K hK; go_simp; apply hK; clear hK K; (have hq9 : True := trivial); clear hq9) | (refine wpE_detN rfl rfl (fun K hK => ?_); apply Exists.intro; apply And.intro; (focus (rintro W ⟨hx, -⟩; obtain q0 := HF2.out W hx; go_simp; all_goals rfl)); go_simp; apply hK; clear hK K; (have hq9 : True := trivial); clear hq9) | (refine wpE_detK rfl ?_ ?_; (focus (refine wanted_so rfl rfl ?_; (focus (simp only [List.getElem?_toArray, List.getElem?_cons_succ, List.getElem?_cons_zero]; done)))); intro K hK; apply Exists.intro; apply And.intro; (focus (rintro W ⟨hx, -⟩; obtain q0 := HF2.out W hx; go_simp; all_goals rfl)); go_simp; apply hK; clear hK K; (have hq9 : True := trivial); clear hq9))); (apply wpE_nil); (rintro W ⟨hW, hG⟩); clear hG
    go_wp2_with fail
    go_ret
    exact ⟨ret_bool (by rw [Bool.eq_iff_iff, beq_iff_eq, decide_eq_true_eq]), x0.tr (hW1.tr hW)⟩
end Go.Proofs.YtimkijmjbnmcbaaGreat
