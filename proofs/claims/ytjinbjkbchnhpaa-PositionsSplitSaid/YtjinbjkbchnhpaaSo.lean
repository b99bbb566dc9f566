/- Contracts: the finished grid of a position. -/
import Derived.Test.YtjinbjkbchnhpaaSz
import Derived.Test.YtjinbjkbchnhpaaOwg
namespace Go.Proofs.Ytjinbjkbchnhpaa
open Go.RowKit Go.Shelf
attribute [local go_sem] Oper.semAt_some

/-- A set of one symbol. -/
def sole (x : Int) : Nat := (elems x).headD 0
def soleB (x : Int) : Bool := decide ((elems x).length = 1) && decide (sole x < 16)
def solvedB (l : List Int) : Bool := l.all soleB
def gridTo (l : List Int) (k : Nat) : List Int := (l.take k).map fun x => (sole x : Int)
def solvedL (l : List Int) : List Int := if solvedB l then gridTo l l.length else []
/-- Two results: a list of integers, and whether. -/
def RetIB (w : World) (l : List Int) (b : Bool) (e : Ending) (w' : World) : Prop := ∃ A c, e = .returned (.tuple #[.slice A l.length c, .bool b]) ∧ RInts w' A l ∧ Ext w w'
theorem sole_of {x : Int} {i : Nat} (h : elems x = [i]) : sole x = i := by simp [sole, h]
theorem soleB_of {x : Int} {pre : List Nat} (h : elems x = pre) (h1 : pre.length = 1) (h2 : ∀ i ∈ pre, i < 16) : soleB x = true ∧ pre = [sole x] := by
  obtain ⟨i, rfl⟩ : ∃ i, pre = [i] := List.length_eq_one_iff.1 h1
  rw [sole_of h]
  exact ⟨by simp [soleB, h, sole_of h, h2 i (by simp)], rfl⟩
theorem soleB_many {x : Int} {pre : List Nat} {i : Nat} (h : pre ++ [i] <+: elems x) (hb : 1 < (pre ++ [i]).length ∨ 16 ≤ i) (h1 : (pre ++ [i]).length = 1 ∨ 1 < (pre ++ [i]).length) : soleB x = false := by
  obtain ⟨t, ht⟩ := h
  have hl : (elems x).length = (pre ++ [i]).length + t.length := by rw [← ht]; simp; omega
  by_cases hn : (elems x).length = 1
  · have hp : pre = [] := by
      rw [hn, List.length_append] at hl
      exact List.length_eq_zero_iff.1 (by simp at hl; omega)
    subst hp
    have ht0 : t = [] := List.length_eq_zero_iff.1 (by simp at hl; omega)
    subst ht0
    have : sole x = i := sole_of (by rw [← ht]; rfl)
    have hi : 16 ≤ i := by simpa using hb
    simp only [soleB, hn, this, Bool.and_eq_false_iff, decide_eq_false_iff_not]
    right; omega
  · simp [soleB, hn]
theorem soleB_none {x : Int} (h : elems x = []) : soleB x = false := by simp [soleB, h]
theorem gridTo_succ {l : List Int} {k : Nat} (h : k < l.length) : gridTo l (k + 1) = gridTo l k ++ [(sole l[k] : Int)] := by
  unfold gridTo; rw [List.take_succ_eq_append_getElem h, List.map_append]; rfl
theorem gridTo_len {l : List Int} {k : Nat} (h : k ≤ l.length) : (gridTo l k).length = k := by simp [gridTo, h]

/-- An own list lies where no such thing lies. -/
theorem OwnG.not_at {α : Type} {E : ETy α} {w : World} {base : Nat} {T : TSet} {A : Option Addr} {n c : Nat} {l : List α} (h : OwnG E w base T A n c l) {D : Nat} {o : Obj} (hD : w.heap[D]? = some o) (ho : o.isCells = false) : blockOf A ≠ some D := by
  obtain ⟨hn, vss, h1, h2⟩ := h
  intro hA
  rcases h2.2 with ⟨e, h0⟩ | ⟨g, cap, cur, e, hb, hg, -, -, -, -⟩
  · injection e with e1 e2 e3; subst e1; cases hA
  · injection e with e1 e2 e3; subst e1
    injection hA with hA
    dsimp only at hA
    subst hA
    rw [hD] at hg
    injection hg with hg
    subst hg
    cases ho
theorem Marked.kb {K : Nat → Prop} {Ds : List Nat} {W W' : World} (h : Marked Ds W) (hk : KB K W W') (hD : ∀ D ∈ Ds, K D) : Marked Ds W' :=
  ⟨h.1, fun D hm => (hk.block D (Array.getElem?_eq_some_iff.1 (h.2 D hm)).1 (hD D hm)).trans (h.2 D hm)⟩
theorem Blk.kb {K : Nat → Prop} {W W' : World} {g : Nat} {t : TypeId} {cs : Array Value} (h : Blk W g t cs) (hk : KB K W W') (hg : K g) : Blk W' g t cs := (hk.block g h.lt hg).trans h

/-- Between two rounds. -/
def SolI (l : List Int) (w : World) (k gm : Nat) (Ds : List Nat) (B : Nat) (pre : List Nat) (T : TSet) (W : World) : Prop :=
  TB B T W ∧ ∃ A c, Blk W gm 3 #[.int .i64 (pre.length : Int)] ∧ Blk W w.heap.size 22 #[.slice A (k + pre.length) c] ∧ Blk W (w.heap.size + 1) 4 #[.bool false] ∧
    OwnG EInt W (w.heap.size + 2) T A (k + pre.length) c (gridTo l k ++ pre.map Int.ofNat) ∧ (∀ g, blockOf A = some g → ¬ T g ∧ g ≠ gm ∧ g ≠ gm + 1) ∧ Marked Ds W ∧ Below w.heap.size w W ∧ pre.length ≤ 1 ∧ ∀ x ∈ pre, x < 16
theorem SolI.stays {l : List Int} {w : World} {k gm : Nat} {Ds : List Nat} {B : Nat} (h1 : gm < B) (h2 : w.heap.size + 1 < B) (h3 : ∀ D ∈ Ds, D < B) : Stays (SolI l w k gm Ds B) := by
  intro pre T T' W W' ⟨⟨t1, t2⟩, A, c, b1, b2, b3, ho, hA, hm, hb, hle, hx⟩ k1 k2 k3
  have off : ∀ k, k < B → ¬ T k := fun k hk ht => by have := t2 k ht; omega
  refine ⟨⟨Nat.le_trans t1 k1.size, fun k hk => ?_⟩, A, c, b1.kb k1 (off _ h1), b2.kb k1 (off _ (by omega)), b3.kb k1 (off _ h2), ho.stay k1 (fun k hl ht => (k3 k ht).elim id (fun h => by omega)) (fun k hk => (hA k hk).1), fun g hg => ⟨fun ht => ?_, (hA g hg).2⟩, hm.kb k1 (fun D hD => off D (h3 D hD)), hb.trans (k1.below (by omega) fun k hk => off k (by omega)), hle, hx⟩
  · have := k1.size
    rcases k3 k hk with h | h
    · have := t2 k h; omega
    · omega
  · rcases k3 g ht with h | h
    · exact (hA g hg).1 h
    · have := (ho.lt g hg).2; omega
/-- A round has ended the function. -/
def SolX (x : Int) (w : World) (Ds : List Nat) (B : Nat) (c : Code) (_ : List Nat) (T : TSet) (W : World) : Prop :=
  TB B T W ∧ c = .ret ∧ soleB x = false ∧ Blk W w.heap.size 22 #[.slice none 0 0] ∧ Blk W (w.heap.size + 1) 4 #[.bool false] ∧ Marked Ds W ∧ Below w.heap.size w W
theorem SolX.stays {x : Int} {w : World} {Ds : List Nat} {B : Nat} (h2 : w.heap.size + 1 < B) (h3 : ∀ D ∈ Ds, D < B) (c : Code) : Stays (SolX x w Ds B c) := by
  intro pre T T' W W' ⟨⟨t1, t2⟩, hc, hs, b2, b3, hm, hb⟩ k1 k2 k3
  have off : ∀ k, k < B → ¬ T k := fun k hk ht => by have := t2 k ht; omega
  refine ⟨⟨Nat.le_trans t1 k1.size, fun k hk => ?_⟩, hc, hs, b2.kb k1 (off _ (by omega)), b3.kb k1 (off _ h2), hm.kb k1 (fun D hD => off D (h3 D hD)), hb.trans (k1.below (by omega) fun k hk => off k (by omega))⟩
  have := k1.size
  rcases k3 k hk with h | h
  · have := t2 k h; omega
  · omega
theorem sol_off {Ds : List Nat} {D b5 b4 b : Nat} (_ : ∀ D ∈ Ds, D < b5) (h2 : ∀ D ∈ Ds, b + 2 ≤ D) (h3 : b5 ≤ D) (h4 : b + 2 ≤ b4) (h5 : b5 = b4 + 2) (j : Nat) (hj : j < b + 2) : j ∉ D :: Ds := by
  intro h
  rcases List.mem_cons.1 h with rfl | h
  · omega
  · have := h2 j h; omega

set_option maxRecDepth 100000 in
set_option maxHeartbeats 4000000 in
theorem pSolved_ok (w : World) (C : Option Addr) (d : Nat) (l : List Int) (h : RInts w C l) : Calls Try.prog 23 #[.slice C l.length d] w fun e w' => RetIB w (solvedL l) (solvedB l) e w' := by
  have hl := h.len
  refine (callsIn_wide (n := 1)).1 (callsIn_of_wp_marks Try.func23 rfl trivial (wpIn_wide.2 ?_) rfl)
  simp only [Try.ntmps23, List.size_toArray, List.length_cons, List.length_nil, Nat.reduceAdd, Nat.reduceSub, Array.replicate_succ, Array.replicate_zero, List.push_toArray, List.append_toArray, List.nil_append, List.cons_append]
  go_wp2_with fail
  obtain ⟨w2, hw2⟩ : ∃ w2, (w.alloc (.cells #[.slice none 0 0] 22)).alloc (.cells #[.bool false] 4) = w2 := ⟨_, rfl⟩
  rw [hw2]
  have hz : w2.heap.size = w.heap.size + 2 := by rw [← hw2]; simp
  have x2 : Ext w w2 := by rw [← hw2]; exact ((Ext.rfl' w).al _).al _
  have b2 : Blk w2 w.heap.size 22 #[.slice none 0 0] := by rw [← hw2]; exact (Blk.new w _ _).ext ((Ext.rfl' _).al _)
  have b3 : Blk w2 (w.heap.size + 1) 4 #[.bool false] := by rw [← hw2]; have := Blk.new (w.alloc (.cells #[.slice none 0 0] 22)) 4 #[.bool false]; rw [World.size_alloc] at this; exact this
  refine wp_loop (fun a W => ∃ (k : Nat) (Ds : List Nat) (A : Option Addr) (c : Nat) (u5 u6 u7 u11 u12 u13 u14 u15 u16 u17 u18 u19 u20 u21 u22 u23 u24 u25 u26 u27 u28 u29 u30 u31 u32 u33 : Value),
      k ≤ l.length ∧ Hid ((l.take k).all soleB = true) ∧ a = { tmps := #[.slice C l.length d, undef, .pointer (some ⟨w.heap.size, 0, none⟩), .pointer (some ⟨w.heap.size + 1, 0, none⟩), undef, u5, u6, u7, .slice C l.length d, .int .i64 l.length, .int .i64 k, u11, u12, u13, u14, u15, u16, u17, u18, u19, u20, u21, u22, u23, u24, u25, u26, u27, u28, u29, u30, u31, u32, u33], defers := marks Ds } ∧
      Marked Ds W ∧ (∀ D ∈ Ds, w.heap.size + 2 ≤ D) ∧ Blk W w.heap.size 22 #[.slice A k c] ∧ Blk W (w.heap.size + 1) 4 #[.bool false] ∧ OwnG EInt W (w.heap.size + 2) noT A k c (gridTo l k) ∧ Ext w W)
    (fun a _ => l.length - (intOf (a.tmps.getD 10 undef)).toNat) ?start ?round
  case start =>
    exact ⟨0, [], none, 0, _, _, _, _, _, _, _, _, _, _, _, _, _, _, _, _, _, _, _, _, _, _, _, _, _, _, Nat.zero_le _, rfl, rfl, ⟨by simp, by simp⟩, by simp, b2, b3, OwnG.nil _ _ _ _, x2⟩
  case round =>
    clear b2 b3 hw2
    rintro a W ⟨k, Ds, A, c, u5, u6, u7, u11, u12, u13, u14, u15, u16, u17, u18, u19, u20, u21, u22, u23, u24, u25, u26, u27, u28, u29, u30, u31, u32, u33, hk, hno, rfl, hm, hDs, b2, b3, hown, hx⟩
    by_cases hlt : k < l.length
    · obtain ⟨ad, rfl, _, hc, _⟩ := (h.to hx).at_ k hlt
      have hu := u64_bd l[k]
      go_wp2_with (go_at_call 34; refine (all_ok _ _).mono ?_; rintro e w' ⟨rfl, rfl⟩)
      have bm : Blk ((W.alloc (.cells #[.int .i64 0] 3)).alloc (.cells #[.int .u64 (IntKind.u64.wrap l[k])] 53)) W.heap.size 3 #[.int .i64 0] := (Blk.new W _ _).ext ((Ext.rfl' _).al _)
      have bs : ((W.alloc (.cells #[.int .i64 0] 3)).alloc (.cells #[.int .u64 (IntKind.u64.wrap l[k])] 53)).cell? ⟨W.heap.size + 1, 0, none⟩ = some (.int .u64 (IntKind.u64.wrap l[k])) := by
        have := (Blk.new (W.alloc (.cells #[.int .i64 0] 3)) 53 #[.int .u64 (IntKind.u64.wrap l[k])]).cell 0; rw [World.size_alloc] at this; exact this
      have hx5 : Ext W ((W.alloc (.cells #[.int .i64 0] 3)).alloc (.cells #[.int .u64 (IntKind.u64.wrap l[k])] 53)) := ((Ext.rfl' W).al _).al _
      have hz5 : ((W.alloc (.cells #[.int .i64 0] 3)).alloc (.cells #[.int .u64 (IntKind.u64.wrap l[k])] 53)).heap.size = W.heap.size + 2 := by simp
      obtain ⟨W5, hW5⟩ : ∃ W5, (W.alloc (.cells #[.int .i64 0] 3)).alloc (.cells #[.int .u64 (IntKind.u64.wrap l[k])] 53) = W5 := ⟨_, rfl⟩
      rw [hW5] at bm bs hx5 hz5 ⊢
      clear hW5
      have hwW : w.heap.size + 2 ≤ W.heap.size := by have := b3.lt; omega
      have hDl : ∀ D ∈ Ds, D < W5.heap.size := fun D hD => by have := (Array.getElem?_eq_some_iff.1 (hm.2 D hD)).1; omega
      refine wp_rangeSeq (all1_seq W5 (W.heap.size + 1) _ hu.1 hu.2 bs (by omega)) rfl (fun _ _ => by kernel_rfl) (Ext.rfl' _) (fun k hk => by omega) (fun _ => rfl) (fun _ _ _ _ _ _ h _ => h)
        (SolI l w k W.heap.size Ds W5.heap.size) (SolX l[k] w Ds W5.heap.size) (SolI.stays (by omega) (by omega) hDl) (SolX.stays (by omega) hDl)
        ⟨⟨Nat.le_refl _, fun _ h => h.elim⟩, A, c, bm, b2.ext hx5, b3.ext hx5, (hown.to hx5).as rfl (by simp), fun g hg => ⟨id, by have := (hown.lt g hg).2; omega⟩, hm.kb (KB.of_ext (K := fun _ => True) hx5) (fun _ _ => trivial), hx.tr hx5, by simp, by simp⟩
        (fun x' a' _ _ => a' = { tmps := #[.slice (some ad) l.length d, undef, .pointer (some ⟨w.heap.size, 0, none⟩), .pointer (some ⟨w.heap.size + 1, 0, none⟩), undef, .int .i64 l[k], .pointer (some ⟨W.heap.size, 0, none⟩), .int .i64 (x' : Int), .slice (some ad) l.length d, .int .i64 l.length, .int .i64 k, .bool true, .pointer (some (ad.add k)), .int .i64 l[k], .int .i64 l[k], .int .u64 (IntKind.u64.wrap l[k]), .func (.func 44) #[] #[.pointer (some ⟨W.heap.size + 1, 0, none⟩)], .int .i64 (x' : Int), u18, u19, u20, u21, u22, u23, u24, u25, u26, u27, u28, u29, u30, u31, u32, u33], defers := [] })
        (fun _ _ _ _ _ _ _ h _ _ _ => h) ?assign (fun _ _ _ _ _ h _ _ _ _ => h) ?body ?done ?stop
      case assign =>
        intro l pre x' T W K hi hr hK
        gi_wp2
        exact hK _ _ (Ext.rfl' _) hr (by simp)
      case body =>
        rintro lo pre x' a' T V hlo hT ⟨⟨t1, t2⟩, A1, c1, b1, b2, b3, ho, hA, hm, hb, hle, hxs⟩ rfl hx' hsp
        have hc1 := b1.cell 0
        have hf1 := b1.frozen 0
        have hc2 := b2.cell 0
        have hf2 := b2.frozen 0
        have hc3 := b3.cell 0
        have hf3 := b3.frozen 0
        have hgm : W.heap.size < W5.heap.size := by omega
        have nT : ∀ k, k < W5.heap.size → ¬ T k := fun k hk ht => by have := t2 k ht; omega
        have hk1 := (KB.refl (fun k => k ≠ W.heap.size) V).set (p := ⟨W.heap.size, 0, none⟩) (.inr fun h => h rfl) (.int .i64 (pre.length + 1 : Int))
        have ho1 := ho.kbInt (hk1.al (.cells #[.int .i64 (x' : Int)] 3)) (fun g hg => (hA g hg).2.1) T
        have hcell : ((V.setCell ⟨W.heap.size, 0, none⟩ (.int .i64 (pre.length + 1 : Int))).alloc (.cells #[.int .i64 (x' : Int)] 3)).cell? ⟨V.heap.size, 0, none⟩ = some (.int .i64 (x' : Int)) := by
          have := (Blk.new (V.setCell ⟨W.heap.size, 0, none⟩ (.int .i64 (pre.length + 1 : Int))) 3 #[.int .i64 (x' : Int)]).cell 0
          rwa [World.size_setCell] at this
        have Hcell := hid hcell; clear hcell
        have bm1 := b1.set 0 (.int .i64 (pre.length + 1 : Int))
        have b21 := b2.other (p := ⟨W.heap.size, 0, none⟩) (by simp; omega) (.int .i64 (pre.length + 1 : Int))
        have b31 := b3.other (p := ⟨W.heap.size, 0, none⟩) (by simp; omega) (.int .i64 (pre.length + 1 : Int))
        have gw : ∀ D ∈ Ds, D ≠ W.heap.size ∧ D ≠ w.heap.size ∧ D ≠ w.heap.size + 1 := fun D hD => ⟨(by
            intro e
            have := hm.2 D hD
            rw [e] at this
            rw [Blk, this] at b1
            cases b1), (by have := hDs D hD; omega), (by have := hDs D hD; omega)⟩
        have hz5' : W5.heap.size ≤ W.heap.size + 2 ∧ W.heap.size + 2 ≤ W5.heap.size := by omega
        clear hz5
        by_cases hp : (pre.length : Int) + 1 ≤ 1
        · gi_wp2_with (gi_at_builtin; refine app_gi1 (w.heap.size + 2) (by simp; omega) rfl _ _ rfl T A1 (k + pre.length) c1 _ rfl ho1 V.heap.size (x' : Int) rfl Hcell.out ⟨by omega, by omega⟩ (by omega) ?_; intro A2 c2 V2 hg2; have kb2 := hg2.kb (K := fun k => blockOf A1 ≠ some k) (fun k hk h => h hk); have nA : ∀ k, k < w.heap.size + 2 → blockOf A1 ≠ some k := fun k hk h => by { have := (ho.lt k h).1; omega }; have b22 := (b21.ext ((Ext.rfl' _).al _)).kb kb2 (nA _ (by omega)); have hc22 := b22.cell 0; have hf22 := b22.frozen 0; clear hc2 hf2)
          · refine ⟨?_, ⟨by simpa using t1, by simpa using t2⟩, rfl, soleB_many (by rw [elems_uwrap] at hsp; exact hsp) (by rw [List.length_append, List.length_singleton]; omega) (by rw [List.length_append, List.length_singleton]; omega), ?_, ?_, ?_, ?_⟩
            · refine (((KB.refl _ V).set (.inr ?_) _).set (.inr ?_) _).set (.inr ?_) _
              · exact fun h => h.elim (fun h => by simp at h) (nT _ hgm)
              · exact fun h => h.elim (fun h => by simp at h; omega) (nT _ (by simp; omega))
              · exact fun h => h.elim (fun h => by simp at h; omega) (nT _ (by simp; omega))
            · exact (b21.set 0 _).other (by simp) _
            · exact (b31.other (by simp) _).set 0 _
            · exact hm.kb (K := fun k => k ≠ W.heap.size ∧ k ≠ w.heap.size ∧ k ≠ w.heap.size + 1) ((((KB.refl _ V).set (.inr fun h => h.1 rfl) _).set (.inr fun h => h.2.1 rfl) _).set (.inr fun h => h.2.2 rfl) _) gw
            · exact ((hb.setCell (p := ⟨W.heap.size, 0, none⟩) (by simp; omega) _).setCell (p := ⟨w.heap.size, 0, none⟩) (by simp) _).setCell (p := ⟨w.heap.size + 1, 0, none⟩) (by simp) _
          · have hlen : pre.length = 0 := by omega
            have kball : KB (fun k => k ≠ W.heap.size ∧ blockOf A1 ≠ some k ∧ k ≠ w.heap.size) V (V2.setCell ⟨w.heap.size, 0, none⟩ (.slice A2 (k + pre.length + 1) c2)) :=
              (((hk1.al _).mono fun _ _ h => h.1).seq (kb2.mono fun _ _ h => h) fun i _ h => h.2.1).set (.inr fun h => h.2.2 rfl) _
            have hx16 : x' < 16 := by omega
            have hAm : blockOf A1 ≠ some W.heap.size := fun h => (hA _ h).2.1 rfl
            have hA2 : blockOf A2 ≠ some w.heap.size := fun h => by have := (hg2.own.lt _ h).1; omega
            refine ⟨kball.mono fun j _ hj => ?_, ⟨by have := kball.size; omega, fun j hj => by have := kball.size; have := t2 j hj; omega⟩, A2, c2, ?_, ?_, ?_, ?_, ?_, ?_, ?_, ?_, ?_⟩
            · rcases hj with hj | hj
              · exact ⟨by omega, fun h => (hA _ h).2.2 hj, by omega⟩
              · exact ⟨fun h => nT _ hgm (h ▸ hj), fun h => (hA _ h).1 hj, fun h => nT _ (by omega) (h ▸ hj)⟩
            · have := ((bm1.ext ((Ext.rfl' _).al (.cells #[.int .i64 (x' : Int)] 3))).kb kb2 hAm).other (p := ⟨w.heap.size, 0, none⟩) (by simp; omega) (.slice A2 (k + pre.length + 1) c2)
              simpa using this
            · have := b22.set 0 (.slice A2 (k + pre.length + 1) c2)
              simpa [Nat.add_assoc] using this
            · exact ((b31.ext ((Ext.rfl' _).al (.cells #[.int .i64 (x' : Int)] 3))).kb kb2 (nA _ (by omega))).other (p := ⟨w.heap.size, 0, none⟩) (by simp) _
            · exact (hg2.own.kbInt ((KB.refl (fun j => j ≠ w.heap.size) V2).set (.inr fun h => h rfl) _) (fun j hj h => hA2 (h ▸ hj)) T).as (by simp; omega) (by simp)
            · intro g hg
              rcases hg2.where_ with e | ⟨g', e, hge⟩
              · rw [e] at hg; exact hA g hg
              · rw [e] at hg
                simp at hg hge
                subst hg
                exact ⟨fun ht => by have := t2 g' ht; omega, by omega, by omega⟩
            · exact hm.kb kball fun D hD => ⟨(gw D hD).1, ho.not_at (hm.2 D hD) rfl, (gw D hD).2.1⟩
            · exact hb.trans (kball.below (by omega) fun j hj => ⟨by omega, nA j (by omega), by omega⟩)
            · simp [hlen]
            · intro y hy
              rcases List.mem_append.1 hy with hy | hy
              · exact hxs y hy
              · obtain rfl : y = x' := by simpa using hy
                exact hx16
        · have hp' : (1 : Int) < pre.length + 1 := by omega
          gi_wp2_with fail
          refine ⟨?_, ⟨by simpa using t1, by simpa using t2⟩, rfl, soleB_many (by rw [elems_uwrap] at hsp; exact hsp) (by rw [List.length_append, List.length_singleton]; omega) (by rw [List.length_append, List.length_singleton]; omega), ?_, ?_, ?_, ?_⟩
          · refine (((KB.refl _ V).set (.inr ?_) _).set (.inr ?_) _).set (.inr ?_) _
            · exact fun h => h.elim (fun h => by simp at h) (nT _ hgm)
            · exact fun h => h.elim (fun h => by simp at h; omega) (nT _ (by simp; omega))
            · exact fun h => h.elim (fun h => by simp at h; omega) (nT _ (by simp; omega))
          · exact (b21.set 0 _).other (by simp) _
          · exact (b31.other (by simp) _).set 0 _
          · exact hm.kb (K := fun k => k ≠ W.heap.size ∧ k ≠ w.heap.size ∧ k ≠ w.heap.size + 1) ((((KB.refl _ V).set (.inr fun h => h.1 rfl) _).set (.inr fun h => h.2.1 rfl) _).set (.inr fun h => h.2.2 rfl) _) gw
          · exact ((hb.setCell (p := ⟨W.heap.size, 0, none⟩) (by simp; omega) _).setCell (p := ⟨w.heap.size, 0, none⟩) (by simp) _).setCell (p := ⟨w.heap.size + 1, 0, none⟩) (by simp) _
      case done =>
        rintro D xs T V hD rfl ⟨⟨t1, t2⟩, A1, c1, b1, b2, b3, ho, hA, hm, hb, hle, hxs⟩ hK
        have hc1 := b1.cell 0
        have hc2 := b2.cell 0
        have hf2 := b2.frozen 0
        have hc3 := b3.cell 0
        have hf3 := b3.frozen 0
        rw [elems_uwrap] at hle hxs ho hc1 hc2 b2
        have hmD : Marked (D :: Ds) V := ⟨List.nodup_cons.2 ⟨fun h => by have := hDl D h; omega, hm.1⟩, fun E hE => (List.mem_cons.1 hE).elim (fun e => e ▸ hK) (hm.2 E)⟩
        by_cases h0 : elems l[k] = []
        · have Hs := hid (soleB_none h0)
          have hc1' : V.cell? ⟨W.heap.size, 0, none⟩ = some (.int .i64 0) := by rw [hc1, h0]; rfl
          clear hc1 h0
          go_wp2_with fail
          have c2 := (b2.set 0 (.slice none 0 0)).other (p := ⟨w.heap.size + 1, 0, none⟩) (by simp) (.bool false)
          have c3 := (b3.other (p := ⟨w.heap.size, 0, none⟩) (by simp) (.slice none 0 0)).set 0 (.bool false)
          have kk := ((KB.refl (fun k => k ≠ w.heap.size ∧ k ≠ w.heap.size + 1) V).set (p := ⟨w.heap.size, 0, none⟩) (.inr fun h => h.1 rfl) (.slice none 0 0)).set (p := ⟨w.heap.size + 1, 0, none⟩) (.inr fun h => h.2 rfl) (.bool false)
          refine leaves_marks (D :: Ds) _ (hmD.kb kk fun E hE => by
            rcases List.mem_cons.1 hE with rfl | hE
            · omega
            · have := hDs E hE; omega) fun W' hk => ⟨.tuple #[.slice none 0 0, .bool false], ?_, none, 0, ?_, ?_, ?_⟩
          · have h1 := (c2.kb hk (sol_off hDl hDs hD hwW hz5 w.heap.size (by omega))).cell 0
            have h2 := (c3.kb hk (sol_off hDl hDs hD hwW hz5 (w.heap.size + 1) (by omega))).cell 0
            simp [results, Try.f23, go_sem, h1, h2]
          · rw [solvedB, solvedL, solvedB, all_of_at k hlt Hs.out]; rfl
          · rw [solvedL, solvedB, all_of_at k hlt Hs.out]; exact RInts.nil _ _
          · exact (hb.trans (kk.below (by omega) fun j hj => by omega)).trans (hk.below (by simp; omega) fun j hj => sol_off hDl hDs hD hwW hz5 j (by omega))
        · have hlen : (elems l[k]).length = 1 := by have := List.length_pos_iff.2 h0; omega
          have hc1' : V.cell? ⟨W.heap.size, 0, none⟩ = some (.int .i64 1) := by rw [hc1, hlen]; rfl
          obtain ⟨hs, he⟩ := soleB_of rfl hlen hxs
          clear hc1 hc2 hf2 hc3 hf3
          have Hs := hid hs; have He := hid he; have Hlen := hid hlen
          clear hs he hlen
          go_wp2_with fail
          refine ⟨⟨k + 1, D :: Ds, A1, c1, _, _, _, _, _, _, _, _, _, _, _, _, _, _, _, _, _, _, _, _, _, _, _, _, _, _, by omega, all_on hlt hno Hs.out, rfl, hmD, ?_, ?_, b3, ?_, hb⟩, by simp [intOf]; omega⟩
          · intro E hE
            rcases List.mem_cons.1 hE with rfl | hE
            · omega
            · exact hDs E hE
          · rw [Hlen.out] at b2; exact b2
          · exact (ho.kbInt (KB.refl (fun _ => True) V) (fun _ _ => trivial) noT).as (by rw [Hlen.out]) (by rw [gridTo_succ hlt, He.out]; rfl)
      case stop =>
        rintro D cc pre T V hD hsp ⟨⟨t1, t2⟩, rfl, hs, b2, b3, hm, hb⟩ hK
        have hmD : Marked (D :: Ds) V := ⟨List.nodup_cons.2 ⟨fun h => by have := hDl D h; omega, hm.1⟩, fun E hE => (List.mem_cons.1 hE).elim (fun e => e ▸ hK) (hm.2 E)⟩
        have Hs := hid hs; clear hs
        go_wp2_with fail
        refine leaves_marks (D :: Ds) _ hmD fun W' hk => ⟨.tuple #[.slice none 0 0, .bool false], ?_, none, 0, ?_, ?_, ?_⟩
        · have h1 := (b2.kb hk (sol_off hDl hDs hD hwW hz5 w.heap.size (by omega))).cell 0
          have h2 := (b3.kb hk (sol_off hDl hDs hD hwW hz5 (w.heap.size + 1) (by omega))).cell 0
          simp [results, Try.f23, go_sem, h1, h2]
        · rw [solvedB, solvedL, solvedB, all_of_at k hlt Hs.out]; rfl
        · rw [solvedL, solvedB, all_of_at k hlt Hs.out]; exact RInts.nil _ _
        · exact hb.trans (hk.below (by omega) fun j hj => sol_off hDl hDs hD hwW hz5 j (by omega))
    · obtain rfl : k = l.length := by omega
      have hc2 := b2.cell 0
      have hf2 := b2.frozen 0
      have hc3 := b3.cell 0
      have hf3 := b3.frozen 0
      have Hall := hid (all_end hno hlt)
      clear hno
      go_wp2_with fail
      have c2 := (b2.set 0 (.slice A l.length c)).other (p := ⟨w.heap.size + 1, 0, none⟩) (by simp) (.bool true)
      have c3 := (b3.other (p := ⟨w.heap.size, 0, none⟩) (by simp) (.slice A l.length c)).set 0 (.bool true)
      have kk := ((KB.refl (fun k => k ≠ w.heap.size ∧ k ≠ w.heap.size + 1) W).set (p := ⟨w.heap.size, 0, none⟩) (.inr fun h => h.1 rfl) (.slice A l.length c)).set (p := ⟨w.heap.size + 1, 0, none⟩) (.inr fun h => h.2 rfl) (.bool true)
      have off : ∀ j, j < w.heap.size + 2 → j ∉ Ds := fun j hj h => by have := hDs j h; omega
      refine leaves_marks Ds _ (hm.kb kk fun E hE => by have := hDs E hE; omega) fun W' hk => ⟨.tuple #[.slice A l.length c, .bool true], ?_, A, c, ?_, ?_, ?_⟩
      · have h1 := (c2.kb hk (off _ (by omega))).cell 0
        have h2 := (c3.kb hk (off _ (by omega))).cell 0
        simp [results, Try.f23, go_sem, h1, h2]
      · rw [solvedL, if_pos (show solvedB l = true from Hall.out), gridTo_len (Nat.le_refl _), show solvedB l = true from Hall.out]
      · rw [solvedL, if_pos (show solvedB l = true from Hall.out)]
        have kk2 : KB (fun k => k ≠ w.heap.size ∧ k ≠ w.heap.size + 1 ∧ k ∉ Ds) W W' := (kk.mono fun _ _ h => ⟨h.1, h.2.1⟩).seq hk fun _ _ h => h.2.2
        refine ((hown.kbInt kk2 (fun j hj => ?_) noT).ints (by omega)).1
        have := (hown.lt j hj).1
        exact ⟨by omega, by omega, fun h => hown.not_at (hm.2 j h) rfl hj⟩
      · exact (hx.trans (kk.below (B := w.heap.size) (a := W) hx.size fun j hj => ⟨by omega, by omega⟩)).trans (hk.below (by have := hx.size; rw [World.size_setCell, World.size_setCell]; exact this) fun j hj => off j (by omega))
end Go.Proofs.Ytjinbjkbchnhpaa
