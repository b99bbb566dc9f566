/- Contracts: a position and a library are checked, in both texts. -/
import Derived.Test.YtimkijmjbnmcbaaGreatYm17
import Derived.Test.YtimkijmjbnmcbaaGreatYm11
import Derived.Test.YtimkijmjbnmcbaaGreatYm12
namespace Go.Proofs.YtimkijmjbnmcbaaGreat
open Go Go.RowKit
set_option maxHeartbeats 1000000 in
theorem check30_ok (w : World) (x : Rule) (p : RPtr) (h : RulePs w x p) : Calls Tryz.prog 7 #[ruleV x p] w fun e w' => e = .returned (.int .i64 (validRE x)) ∧ Ext w w' := by
  have x0 := (Ext.rfl' w).al (ruleO x p)
  have hs := valid30_ok _ x p (h.to x0)
  obtain ⟨pa, pac, pb, pbc, pc, pcc, pd, pdc⟩ := p
  cases hv : validR x
  · rw [hv] at hs
    have Hs := hid hs; have Hv := hid hv; clear hs hv
    go_enter Tryz.func7, Tryz.ntmps7
    go_wp2_with fail
    refine Hs.out.mono ?_
    rintro e w1 ⟨rfl, hb⟩
    go_wp2_with fail
    go_ret
    exact ⟨ret_int (by unfold validRE; rw [Hv.out]; rfl), x0.tr hb⟩
  · rw [hv] at hs
    have Hs := hid hs; have Hv := hid hv; clear hs hv
    go_enter Tryz.func7, Tryz.ntmps7
    go_wp2_with fail
    refine Hs.out.mono ?_
    rintro e w1 ⟨rfl, hb⟩
    go_wp2_with fail
    go_ret
    exact ⟨ret_int (by unfold validRE; rw [Hv.out]; rfl), x0.tr hb⟩
/-- The first error of a position and a library. -/
def libE (q : Problem) (l : List Rule) (pos : List Int) : Int := if checkB q pos then (if 16 < l.length then 2 else if l.all validR then 0 else 300) else checkE q pos
def libB (q : Problem) (l : List Rule) (pos : List Int) : Bool := checkB q pos && decide (l.length ≤ 16) && l.all validR
theorem libE_ok {q : Problem} {l : List Rule} {pos : List Int} (h : libB q l pos = true) : libE q l pos = 0 := by
  simp only [libB, Bool.and_eq_true, decide_eq_true_eq] at h
  unfold libE
  rw [if_pos h.1.1, if_neg (by omega), if_pos h.2]
theorem libE_no {q : Problem} {l : List Rule} {pos : List Int} (h : libB q l pos = false) : (libE q l pos != 0) = true := by
  unfold libE
  cases hc : checkB q pos
  · have := checkE_no hc; simpa using this
  · simp only [if_true]
    by_cases hl : 16 < l.length
    · rw [if_pos hl]; rfl
    · rw [if_neg hl]
      have : l.all validR = false := by
        unfold libB at h
        rw [hc, decide_eq_true (by omega)] at h
        simpa using h
      rw [this]; rfl
abbrev libW (l : List Rule) (A : Option Addr) (a : Nat) (B : Option Addr) (bn bc : Nat) : Value := .agg #[.slice A l.length a, .slice B bn bc]
abbrev libO (l : List Rule) (A : Option Addr) (a : Nat) (B : Option Addr) (bn bc : Nat) : Obj := .cells #[.slice A l.length a, .slice B bn bc] 30
theorem validRE_ne {x : Rule} (b : Bool) (h : validR x = b) : (validRE x != 0) = !b := by unfold validRE; rw [h]; cases b <;> rfl
theorem RRules.ruleLoad {w : World} {A : Option Addr} {l : List Rule} (h : RRules w A l) (k : Nat) (hk : k < l.length) :
    ∃ ad p, A = some ad ∧ ad.block < w.heap.size ∧ RulePs w l[k] p ∧ w.cell? (ad.add (k * 8)) = some (.string l[k].name) ∧ w.cell? ⟨(ad.add (k * 8)).block, (ad.add (k * 8)).off + 1, none⟩ = some (.int .i64 l[k].level) ∧
      w.cell? ⟨(ad.add (k * 8)).block, (ad.add (k * 8)).off + 2, none⟩ = some (.slice p.a l[k].cells.length p.ac) ∧ w.cell? ⟨(ad.add (k * 8)).block, (ad.add (k * 8)).off + 3, none⟩ = some (.slice p.b l[k].letters.length p.bc) ∧
      w.cell? ⟨(ad.add (k * 8)).block, (ad.add (k * 8)).off + 4, none⟩ = some (.slice p.c l[k].conds.length p.cc) ∧ w.cell? ⟨(ad.add (k * 8)).block, (ad.add (k * 8)).off + 5, none⟩ = some (.slice p.d l[k].premises.length p.dc) ∧
      w.cell? ⟨(ad.add (k * 8)).block, (ad.add (k * 8)).off + 6, none⟩ = some (.int .i64 l[k].cell) ∧ w.cell? ⟨(ad.add (k * 8)).block, (ad.add (k * 8)).off + 7, none⟩ = some (.int .i64 l[k].letter) := by
  obtain ⟨ad, p, e, hb, h1, h2⟩ := h.ruleAt k hk
  exact ⟨ad, p, e, hb, h1, h2⟩
set_option maxHeartbeats 2000000 in
set_option maxRecDepth 100000 in
theorem mcheck_ok (w : World) (q : Problem) (p : PPtr) (l : List Rule) (A : Option Addr) (a : Nat) (B : Option Addr) (bn bc : Nat) (P : Option Addr) (pn : Nat) (pos : List Int) (hq : RProb w q p) (h : RRules w A l) (hP : RInts w P pos) :
    Calls Tryz.prog 22 #[probV q p, libW l A a B bn bc, .slice P pos.length pn] w fun e w' => e = .returned (.int .i64 (libE q l pos)) ∧ Ext w w' := by
  have x0 := ((Ext.rfl' w).al (probO q p)).al (libO l A a B bn bc)
  have hll := h.len
  have hbx : ∀ V, Ext ((w.alloc (probO q p)).alloc (libO l A a B bn bc)) V → V.cell? ⟨w.heap.size + 1, 0, none⟩ = some (.slice A l.length a) := fun V hV => boxE hV (World.size_alloc _ _) 0 _ rfl
  have Hbx := hid hbx; clear hbx
  obtain ⟨pa, pac, pb, pbc, pc, pcc⟩ := p
  cases hc : checkB q pos
  · have he := checkE_no hc
    have hr : libE q l pos = checkE q pos := by unfold libE; rw [hc]; rfl
    have Hr := hid hr; clear hr hc
    go_enter Tryz.func22, Tryz.ntmps22
    go_wp2_with (go_at_call 37; refine (pCheck_ok _ q ⟨pa, pac, pb, pbc, pc, pcc⟩ P pn pos (hq.to x0) (hP.to x0)).mono ?_; rintro e w1 ⟨rfl, hb1⟩; have f0 := Hbx.out _ hb1)
    go_ret
    exact ⟨ret_int Hr.out.symm, x0.tr hb1⟩
  have he := checkE_ok hc
  have Hc := hid hc; clear hc
  by_cases hl : 16 < l.length
  · have hr : libE q l pos = 2 := by unfold libE; rw [Hc.out, if_pos hl]; rfl
    have Hr := hid hr; clear hr
    go_enter Tryz.func22, Tryz.ntmps22
    go_wp2_with (go_at_call 37; refine (pCheck_ok _ q ⟨pa, pac, pb, pbc, pc, pcc⟩ P pn pos (hq.to x0) (hP.to x0)).mono ?_; rintro e w1 ⟨rfl, hb1⟩; have f0 := Hbx.out _ hb1)
    go_ret
    exact ⟨ret_int Hr.out.symm, x0.tr hb1⟩
  have hr : libE q l pos = if l.all validR then 0 else 300 := by unfold libE; rw [Hc.out, if_neg hl]; rfl
  have Hr := hid hr; clear hr
  go_enter Tryz.func22, Tryz.ntmps22
  go_wp2_with (go_at_call 37; refine (pCheck_ok _ q ⟨pa, pac, pb, pbc, pc, pcc⟩ P pn pos (hq.to x0) (hP.to x0)).mono ?_; rintro e w1 ⟨rfl, hb1⟩; have f0 := Hbx.out _ hb1)
  go_loopw [9, 23] (fun _ i wr => ∃ k : Nat, k ≤ l.length ∧ i = .int .i64 k ∧ Hid ((l.take k).all validR = true) ∧ Ext w1 wr) (fun _ i _ => l.length - (intOf i).toNat)
  case atStart => exact ⟨0, Nat.zero_le _, rfl, rfl, Ext.rfl' _⟩
  case round =>
    clear f0
    obtain ⟨k, hk, rfl, hno, hx⟩ := hrel
    have f0 := Hbx.out wr (hb1.tr hx)
    by_cases hlt : k < l.length
    · obtain ⟨ad, p', rfl, hab, hps, g0, g1, g2, g3, g4, g5, g6, g7⟩ := (h.to (x0.tr (hb1.tr hx))).ruleLoad k hlt
      cases hv : validR l[k]
      · have hne := validRE_ne false hv
        have Hv := hid hv; clear hv
        go_wp2_with fail
        refine (lmCheck_ok _ l[k] p' (hps.to ((Ext.rfl' wr).al (ruleO l[k] p')))).mono ?_
        rintro e w2 ⟨rfl, hb2⟩
        go_wp2_with fail
        go_ret
        exact ⟨ret_int (by rw [Hr.out, all_of_at k hlt Hv.out]; rfl), x0.tr (hb1.tr (hx.tr (((Ext.rfl' wr).al (ruleO l[k] p')).tr hb2)))⟩
      · have hne := validRE_ne true hv
        have Hv := hid hv; clear hv
        go_wp2_with fail
        refine (lmCheck_ok _ l[k] p' (hps.to ((Ext.rfl' wr).al (ruleO l[k] p')))).mono ?_
        rintro e w2 ⟨rfl, hb2⟩
        go_wp2_with fail
        go_roundw
        case rel => exact ⟨k + 1, by omega, by go_num, all_on hlt hno Hv.out, hx.tr (((Ext.rfl' wr).al (ruleO l[k] p')).tr hb2)⟩
        case measure => simp [intOf]; omega
    · have hall := all_end hno hlt
      have Hall := hid hall; clear hall
      go_wp2_with fail
      go_ret
      exact ⟨ret_int (by rw [Hr.out, Hall.out]; rfl), x0.tr (hb1.tr hx)⟩
end Go.Proofs.YtimkijmjbnmcbaaGreat
