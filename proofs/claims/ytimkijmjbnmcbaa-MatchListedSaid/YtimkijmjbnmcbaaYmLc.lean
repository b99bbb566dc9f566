/- Contract: the law on List holds. -/
import Derived.Test.YtimkijmjbnmcbaaYm24
import Derived.Test.YtimkijmjbnmcbaaYm19
import Derived.Test.YtimkijmjbnmcbaaYmOp
namespace Go.Proofs.Ytimkijmjbnmcbaa
open Go Go.RowKit
/-- What it says that they are small enough for List. -/
def SmallF (q : Problem) (l : List Rule) : Prop := FewF q l ∧ q.cells ≤ 9 ∧ l.length ≤ 4
theorem choicesR_len9 {n : Int} {m : Nat} (hn : n ≤ m) : ∀ k, (choicesR n k).length ≤ m ^ k
  | 0 => by simp [choicesR]
  | k + 1 => by
    have e : choicesR n (k + 1) = nextTo n (choicesR n k) (choicesR n k).length := by unfold nextTo; rw [List.take_length]; rfl
    rw [e]
    have h1 := nextTo_len (n := n) (cs := choicesR n k) (choicesR n k).length
    have h2 := choicesR_len9 hn k
    have h3 : (choicesR n k).length * n.toNat ≤ m ^ k * m := Nat.mul_le_mul h2 (by omega)
    rw [Nat.pow_succ]; omega
theorem refOut_len {q : Problem} {pos : List Int} {x : Rule} {j : Int} (cs : List (List Int)) (n : Nat) (h : (choicesR q.symbols x.letters.length).length ≤ n) : (refOut q pos x j cs).length ≤ cs.length * n := by
  unfold refOut
  induction cs with
  | nil => simp
  | cons c cs ih =>
    rw [List.flatMap_cons, List.length_append, List.length_cons, Nat.succ_mul]
    have : (refIn q pos x j c (choicesR q.symbols x.letters.length)).length ≤ n := by
      unfold refIn
      rw [List.length_map]
      exact Nat.le_trans (List.length_filter_le _ _) h
    omega
theorem refTo_small {q : Problem} {pos : List Int} {l : List Rule} {level : Int} (h : SmallF q l) : ∀ k, k ≤ l.length → (refTo q pos l level k).length ≤ k * 15000
  | 0, _ => by simp [refTo]
  | k + 1, hk => by
    obtain ⟨⟨-, hs, hx⟩, hc, -⟩ := id h
    rw [refTo_succ (by omega), List.length_append]
    have h1 := refTo_small (pos := pos) (level := level) h k (by omega)
    have h2 : (refRule q pos l[k] level k).length ≤ 15000 := by
      have hr := hx l[k] (List.getElem_mem _)
      unfold refRule
      split
      · exact Nat.zero_le _
      · have a1 : (choicesR q.symbols l[k].letters.length).length ≤ 16 := Nat.le_trans (choicesR_len9 (m := 4) hs _) (Nat.le_trans (Nat.pow_le_pow_right (by decide) hr.2) (by decide))
        have a2 : (choicesR q.cells l[k].cells.length).length ≤ 729 := Nat.le_trans (choicesR_len9 (m := 9) hc _) (Nat.le_trans (Nat.pow_le_pow_right (by decide) hr.1) (by decide))
        have a3 := refOut_len (q := q) (pos := pos) (x := l[k]) (j := k) (choicesR q.cells l[k].cells.length) 16 a1
        have a4 : (choicesR q.cells l[k].cells.length).length * 16 ≤ 729 * 16 := Nat.mul_le_mul_right _ a2
        omega
    rw [Nat.succ_mul]; omega
theorem refTo_bd {q : Problem} {pos : List Int} {l : List Rule} {level : Int} (h : SmallF q l) : (refTo q pos l level l.length).length ≤ 100000000 := by
  have h1 := refTo_small (pos := pos) (level := level) h l.length (Nat.le_refl _)
  have := h.2.2
  have h2 : l.length * 15000 ≤ 4 * 15000 := Nat.mul_le_mul_right _ this
  omega
theorem chR_len (n : Int) (may : List Int → Bool) (k : Nat) : (chR n may k []).length ≤ (choicesR n k).length := by
  rw [chR_filter, ← choicesR_eq]; exact List.length_filter_le _ _
theorem outL_len {q : Problem} {pos : List Int} {x : Rule} {j : Int} (cs : List (List Int)) (n : Nat) (h : (symC q x).length ≤ n) : (outL q pos x j cs).length ≤ cs.length * n := by
  unfold outL
  induction cs with
  | nil => simp
  | cons c cs ih =>
    rw [List.flatMap_cons, List.length_append, List.length_cons, Nat.succ_mul]
    have : (inL q pos x j c (symC q x)).length ≤ n := by
      unfold inL
      rw [List.length_map]
      exact Nat.le_trans (List.length_filter_le _ _) h
    omega
theorem listTo_small {q : Problem} {pos : List Int} {l : List Rule} {level : Int} (h : SmallF q l) : ∀ k, k ≤ l.length → (listTo q pos l level k).length ≤ k * 15000
  | 0, _ => by simp [listTo]
  | k + 1, hk => by
    obtain ⟨⟨-, hs, hx⟩, hc, -⟩ := id h
    rw [listTo_succ (by omega), List.length_append]
    have h1 := listTo_small (pos := pos) (level := level) h k (by omega)
    have h2 : (ruleL q pos l[k] level k).length ≤ 15000 := by
      have hr := hx l[k] (List.getElem_mem _)
      unfold ruleL
      split
      · exact Nat.zero_le _
      · have a1 : (symC q l[k]).length ≤ 16 := Nat.le_trans (chR_len _ _ _) (Nat.le_trans (choicesR_len9 (m := 4) hs _) (Nat.le_trans (Nat.pow_le_pow_right (by decide) hr.2) (by decide)))
        have a2 : (cellC q pos l[k]).length ≤ 729 := Nat.le_trans (chR_len _ _ _) (Nat.le_trans (choicesR_len9 (m := 9) hc _) (Nat.le_trans (Nat.pow_le_pow_right (by decide) hr.1) (by decide)))
        have a3 := outL_len (q := q) (pos := pos) (x := l[k]) (j := k) (cellC q pos l[k]) 16 a1
        have a4 : (cellC q pos l[k]).length * 16 ≤ 729 * 16 := Nat.mul_le_mul_right _ a2
        omega
    rw [Nat.succ_mul]; omega
theorem listTo_bd {q : Problem} {pos : List Int} {l : List Rule} {level : Int} (h : SmallF q l) : (listTo q pos l level l.length).length ≤ 100000000 := by
  have h1 := listTo_small (pos := pos) (level := level) h l.length (Nat.le_refl _)
  have := h.2.2
  have h2 : l.length * 15000 ≤ 4 * 15000 := Nat.mul_le_mul_right _ this
  omega
set_option maxRecDepth 100000 in
set_option maxHeartbeats 4000000 in
theorem small33_ok (w : World) (q : Problem) (p : PPtr) (l : List Rule) (A : Option Addr) (a : Nat) (B : Option Addr) (bn bc : Nat) (hq : RProb w q p) (hl : RRules w A l) : Calls Try.prog 15 #[probV q p, libW l A a B bn bc] w (RetFew w (SmallF q l)) := by
  have x0 := ((Ext.rfl' w).al (probO q p)).al (libO l A a B bn bc)
  have hll := hl.len
  have F : ∀ V, Ext ((w.alloc (probO q p)).alloc (libO l A a B bn bc)) V → RListBox V w.heap.size q p l.length A a B bn bc := fun V hV =>
    ⟨probBox (((Ext.rfl' _).al _).tr hV) rfl, boxE hV (by simp) 0 _ rfl, boxE hV (by simp) 1 _ rfl⟩
  have HF := hid F; clear F
  obtain ⟨pa, pac, pb, pbc, pc, pcc⟩ := p
  obtain ⟨⟨f0, f1, f2, f3, f4⟩, f5, f6⟩ := HF.out _ (Ext.rfl' _)
  dsimp only at f2 f3 f4
  have fw := few33_ok _ q ⟨pa, pac, pb, pbc, pc, pcc⟩ l A a B bn bc (hq.to x0) (hl.to x0)
  have Fw := hid fw; clear fw
  go_enter Try.func15, Try.ntmps15
  go_wp2_with fail
  refine Fw.out.mono ?_
  rintro e w2 ⟨bf, rfl, hf, hb2⟩
  clear f0 f1 f2 f3 f4 f5 f6
  obtain ⟨⟨f0, f1, f2, f3, f4⟩, f5, f6⟩ := HF.out _ hb2
  dsimp only at f2 f3 f4
  have Hf := hid hf; clear hf
  cases bf
  · go_wp2_with fail
    go_ret
    exact RetFew.no (x0.tr hb2)
  have hF := Hf.out rfl
  have HFF := hid hF; clear hF
  by_cases h1 : q.cells ≤ 9
  rotate_left
  · have h2 : (9 : Int) < q.cells := by omega
    go_wp2_with fail
    go_ret
    exact RetFew.no (x0.tr hb2)
  by_cases h3 : l.length ≤ 4
  rotate_left
  · go_wp2_with fail
    go_ret
    exact ⟨_, rfl, fun h => absurd (by simpa using h) (show ¬ (l.length : Int) ≤ 4 by omega), x0.tr hb2⟩
  go_wp2_with fail
  go_ret
  exact ⟨_, rfl, fun _ => ⟨HFF.out, h1, h3⟩, x0.tr hb2⟩
set_option maxRecDepth 100000 in
set_option maxHeartbeats 8000000 in
theorem lListSpec_ok (w : World) (q : Problem) (p : PPtr) (l : List Rule) (A : Option Addr) (a : Nat) (B : Option Addr) (bn bc : Nat) (P : Option Addr) (pn : Nat) (pos : List Int) (level : Int) (hq : RProb w q p) (hl : RRules w A l) (hP : RInts w P pos) (hlev : I64 level) :
    Calls Try.prog 5 #[probV q p, libW l A a B bn bc, .slice P pos.length pn, .int .i64 level] w fun e w' => e = .returned (.bool true) ∧ Ext w w' := by
  have x0 := ((Ext.rfl' w).al (probO q p)).al (libO l A a B bn bc)
  have F : ∀ V, Ext ((w.alloc (probO q p)).alloc (libO l A a B bn bc)) V → RListBox V w.heap.size q p l.length A a B bn bc := fun V hV =>
    ⟨probBox (((Ext.rfl' _).al _).tr hV) rfl, boxE hV (by simp) 0 _ rfl, boxE hV (by simp) 1 _ rfl⟩
  have HF := hid F; clear F
  obtain ⟨pa, pac, pb, pbc, pc, pcc⟩ := p
  have sm := fun V hV => small33_ok V q ⟨pa, pac, pb, pbc, pc, pcc⟩ l A a B bn bc (hq.to (x0.tr hV)) (hl.to (x0.tr hV))
  have m1 := fun (h : SmallF q l) V hV => mList_ok V q ⟨pa, pac, pb, pbc, pc, pcc⟩ l A a B bn bc P pn pos level (hq.to (x0.tr hV)) (hl.to (x0.tr hV)) (hP.to (x0.tr hV)) hlev (listTo_bd h)
  have m2 := fun (h : SmallF q l) V hV => list33_ok V q ⟨pa, pac, pb, pbc, pc, pcc⟩ l A a B bn bc P pn pos level (hq.to (x0.tr hV)) (hl.to (x0.tr hV)) (hP.to (x0.tr hV)) hlev (refTo_bd h)
  unfold RetList at m1 m2
  rw [list_eq] at m1
  obtain ⟨r1, r2, hr⟩ : ∃ a b, refListR q l pos level = (a, b) := ⟨_, _, rfl⟩
  rw [hr] at m1 m2
  have Sm := hid sm; have M1 := hid m1; have M2 := hid m2; have Hlev := hid hlev; clear sm m1 m2 hr hlev
  go_enter Try.func5, Try.ntmps5
  go_upto_region 3 with (go_at_call 9; refine (sane33_ok _).mono ?_; rintro e w1 ⟨rfl, hb1⟩)
  obtain ⟨⟨f0, f1, f2, f3, f4⟩, f5, f6⟩ := HF.out _ hb1
  dsimp only at f2 f3 f4
  go_wp2_with fail
  refine (Sm.out _ hb1).mono ?_
  rintro e w2 ⟨bf, rfl, hf, hb2⟩
  have y2 := hb1.tr hb2
  have Hf := hid hf; clear hf
  clear f0 f1 f2 f3 f4 f5 f6
  obtain ⟨⟨f0, f1, f2, f3, f4⟩, f5, f6⟩ := HF.out _ y2
  dsimp only at f2 f3 f4
  cases bf
  · go_wp2_with fail
    go_ret
    exact ⟨rfl, x0.tr y2⟩
  have hF := Hf.out rfl
  have HS := hid hF; clear hF
  go_wp2_with fail
  refine (M1.out HS.out _ y2).mono ?_
  rintro e w3 ⟨X, xc, rfl, hX, -, hb3⟩
  have y3 := y2.tr hb3
  clear f0 f1 f2 f3 f4 f5 f6
  obtain ⟨⟨f0, f1, f2, f3, f4⟩, f5, f6⟩ := HF.out _ y3
  dsimp only at f2 f3 f4
  go_wp2_with fail
  refine (M2.out HS.out _ y3).mono ?_
  rintro e w4 ⟨Y, yc, rfl, hY, -, hb4⟩
  have y4 := y3.tr hb4
  clear f0 f1 f2 f3 f4 f5 f6
  go_wp2_with (go_at_call 18; refine (sameAll_ok _ X Y xc yc r1 r1 (hX.to hb4) hY).mono ?_; rintro e w5 ⟨rfl, hb5⟩; rw [sameL_refl])
  go_ret
  exact ⟨rfl, x0.tr (y4.tr hb5)⟩
end Go.Proofs.Ytimkijmjbnmcbaa
