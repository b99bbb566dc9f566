/- Contract: rules are checked (the program's text). -/
import Derived.Deep.DeepCutAuto
import Derived.Deep.CutBlock
import Derived.Test.YtimkijmjbnmcbaaGreatYm8
import Derived.Test.YtimkijmjbnmcbaaGreatYm6
namespace Go.Proofs.YtimkijmjbnmcbaaGreat
open Go.RowKit
abbrev ruleV (x : Rule) (p : RPtr) : Value :=
  .agg #[.string x.name, .int .i64 x.level, .slice p.a x.cells.length p.ac, .slice p.b x.letters.length p.bc, .slice p.c x.conds.length p.cc, .slice p.d x.premises.length p.dc, .int .i64 x.cell, .int .i64 x.letter]
abbrev ruleO (x : Rule) (p : RPtr) : Obj :=
  .cells #[.string x.name, .int .i64 x.level, .slice p.a x.cells.length p.ac, .slice p.b x.letters.length p.bc, .slice p.c x.conds.length p.cc, .slice p.d x.premises.length p.dc, .int .i64 x.cell, .int .i64 x.letter] 41
/-- A boxed rule. -/
def RuleBox (W : World) (g : Nat) (x : Rule) (p : RPtr) : Prop :=
  W.cell? ⟨g, 0, none⟩ = some (.string x.name) ∧ W.cell? ⟨g, 1, none⟩ = some (.int .i64 x.level) ∧ W.cell? ⟨g, 2, none⟩ = some (.slice p.a x.cells.length p.ac) ∧ W.cell? ⟨g, 3, none⟩ = some (.slice p.b x.letters.length p.bc) ∧
  W.cell? ⟨g, 4, none⟩ = some (.slice p.c x.conds.length p.cc) ∧ W.cell? ⟨g, 5, none⟩ = some (.slice p.d x.premises.length p.dc) ∧ W.cell? ⟨g, 6, none⟩ = some (.int .i64 x.cell) ∧ W.cell? ⟨g, 7, none⟩ = some (.int .i64 x.letter)
theorem ruleBox {w W : World} {x : Rule} {p : RPtr} {g : Nat} (h : Ext (w.alloc (ruleO x p)) W) (hg : w.heap.size = g) : RuleBox W g x p :=
  ⟨boxE h hg 0 _ rfl, boxE h hg 1 _ rfl, boxE h hg 2 _ rfl, boxE h hg 3 _ rfl, boxE h hg 4 _ rfl, boxE h hg 5 _ rfl, boxE h hg 6 _ rfl, boxE h hg 7 _ rfl⟩
abbrev premO (c : Premise) (A : Option Addr) (a : Nat) : Obj := .cells #[.int .i64 c.cell, .slice A c.letters.length a] 53
def preR1 (x : Rule) : Bool := nameB x.name && decide (1 ≤ x.level) && decide (x.level ≤ 8) && namesB x.cells 4 && namesB x.letters 3 && decide ((x.conds.length : Int) ≤ 6)
def preR2 (x : Rule) : Bool := decide (0 ≤ x.cell ∧ x.cell < (x.cells.length : Int)) && decide (0 ≤ x.letter ∧ x.letter < (x.letters.length : Int))
def premB (x : Rule) (c : Premise) : Bool := indicesB c.letters x.letters.length 1
/-- A rule is valid. -/
def validR (x : Rule) : Bool := preR1 x && preR2 x && x.conds.all (fun c => condB c x.cells.length x.letters.length) && x.premises.all (premB x) && diffB (x.premises.map (·.cell)) x.cells.length
def validRE (x : Rule) : Int := if validR x then 0 else 300
theorem indices_one (v n : Int) : indicesB [v] n 1 = decide (0 ≤ v ∧ v < n) := by
  unfold indicesB diffB
  simp [diffAt, met, num]
theorem RInts.one {W : World} {g : Nat} {v : Int} (hc : W.cell? ⟨g, 0, none⟩ = some (.int .i64 v)) (hv : I64 v) : RInts W (some ⟨g, 0, none⟩) [v] := by
  refine ⟨by simp, fun _ => ⟨_, rfl, ?_, fun i hi => ?_⟩⟩
  · by_cases hl : g < W.heap.size
    · exact hl
    · have : W.heap[g]? = none := Array.getElem?_eq_none (by omega)
      simp [World.cell?, this] at hc
  · obtain rfl : i = 0 := by simpa using hi
    refine ⟨[.int .i64 v], rfl, ⟨rfl, hv⟩, fun j hj => ?_⟩
    obtain rfl : j = 0 := by simpa using hj
    simpa [Addr.add] using hc
theorem lmIdx1_ok (w : World) (g : Nat) (v : Int) (n : Int) (hc : w.cell? ⟨g, 0, none⟩ = some (.int .i64 v)) (hv : I64 v) :
    Calls Tryz.prog 75 #[.slice (some ⟨g, 0, none⟩) 1 1, .int .i64 n, .int .i64 1] w fun e w' => e = .returned (.bool (decide (0 ≤ v ∧ v < n))) ∧ w = w' := by
  have := lmIdx_ok w (some ⟨g, 0, none⟩) 1 [v] (RInts.one hc hv) n 1
  rw [indices_one] at this
  exact this
theorem Blk.grown {w w' : World} {g : Nat} {t : TypeId} {cs : Array Value} {row : Option Nat} (h : Blk w g t cs) (hg : w.grownBy w' row) (hne : row ≠ some g) : Blk w' g t cs := (hg.block g h.lt (fun e => hne e.symm)).trans h
theorem OwnI.at_ne {w : World} {base : Nat} {v : Value} {l : List Int} (h : OwnI w base v l) : v.ownBlock ≠ some w.heap.size := fun e => absurd (h.row.lt _ e).2 (Nat.lt_irrefl _)
theorem bool_eq {a b : Bool} (h : a = b) : Value.bool a = .bool b := by rw [h]
set_option maxHeartbeats 4000000 in
set_option maxRecDepth 100000 in
theorem lmCheck_ok (w : World) (x : Rule) (p : RPtr) (h : RulePs w x p) :
    Calls Tryz.prog 38 #[ruleV x p] w fun e w' => e = .returned (.int .i64 (validRE x)) ∧ Ext w w' := by
  obtain ⟨pa, pac, pb, pbc, pc, pcc, pd, pdc⟩ := p
  have x0 := (Ext.rfl' w).al (ruleO x ⟨pa, pac, pb, pbc, pc, pcc, pd, pdc⟩)
  obtain ⟨k1, k2, k3, k4, k5, k6, k7, k8⟩ := h.to x0
  dsimp only at k1 k2 k3 k4
  have l1 := k1.len; have l2 := k2.len; have l3 := k3.len; have l4 := k4.len
  go_enter Tryz.func38, Tryz.ntmps38
  go_upto_region 2 with fail
  go_cut [4] (fun s wx => s = .bool (preR1 x) ∧ wx = w.alloc (ruleO x ⟨pa, pac, pb, pbc, pc, pcc, pd, pdc⟩))
  case first =>
    go_wp2_with (first
      | (go_at_call 73; refine (lexName_ok _ _ k8).mono ?_; rintro e w' ⟨rfl, rfl⟩)
      | (go_at_call 74; (with_reducible refine (lmNames_ok _ pa _ x.cells k1 _).mono ?_); rintro e w' ⟨rfl, rfl⟩)
      | (go_at_call 74; (with_reducible refine (lmNames_ok _ pb _ x.letters k2 _).mono ?_); rintro e w' ⟨rfl, rfl⟩))
    all_goals (go_meet; exact ⟨bool_eq (by grind [preR1]), rfl⟩)
  case rest =>
    obtain ⟨rfl, rfl⟩ := hcut
    go_upto_region 3 with fail
    go_cut [4] (fun s wx => s = .bool (preR1 x && preR2 x) ∧ Ext (w.alloc (ruleO x ⟨pa, pac, pb, pbc, pc, pcc, pd, pdc⟩)) wx)
    case first =>
      cases hP : preR1 x
      · go_wp2_with fail
        all_goals (go_meet; exact ⟨bool_eq (by rw [hP]; rfl), Ext.rfl' _⟩)
      · have hc1 : ((w.alloc (ruleO x ⟨pa, pac, pb, pbc, pc, pcc, pd, pdc⟩)).alloc (.cells #[.int .i64 x.cell] 3)).cell? ⟨w.heap.size + 1, 0, none⟩ = some (.int .i64 x.cell) := by simp [go_sem]
        have hc2 : (((w.alloc (ruleO x ⟨pa, pac, pb, pbc, pc, pcc, pd, pdc⟩)).alloc (.cells #[.int .i64 x.cell] 3)).alloc (.cells #[.int .i64 x.letter] 3)).cell? ⟨w.heap.size + 1 + 1, 0, none⟩ = some (.int .i64 x.letter) := by simp [go_sem]
        have HC1 := hid hc1; have HC2 := hid hc2; clear hc1 hc2
        go_wp2_with (first
          | (go_at_call 75; (with_reducible refine (lmIdx1_ok _ _ x.cell x.cells.length HC1.out k6).mono ?_); rintro e w' ⟨rfl, rfl⟩)
          | (go_at_call 75; (with_reducible refine (lmIdx1_ok _ _ x.letter x.letters.length HC2.out k7).mono ?_); rintro e w' ⟨rfl, rfl⟩))
        all_goals (go_meet; exact ⟨bool_eq (by rw [hP]; grind [preR2]), by first | exact ((Ext.rfl' _).al _).al _ | exact (Ext.rfl' _).al _⟩)
    case rest =>
      obtain ⟨rfl, hx1⟩ := hcut
      have hval : validR x = (preR1 x && preR2 x && x.conds.all (fun c => condB c x.cells.length x.letters.length) && x.premises.all (premB x) && diffB (x.premises.map (·.cell)) x.cells.length) := rfl
      generalize (preR1 x && preR2 x) = b at *
      have Hval := hid hval; clear hval
      have F : ∀ W, Ext (w.alloc (ruleO x ⟨pa, pac, pb, pbc, pc, pcc, pd, pdc⟩)) W → RuleBox W w.heap.size x ⟨pa, pac, pb, pbc, pc, pcc, pd, pdc⟩ := fun W hW => ruleBox hW rfl
      have HF := hid F; clear F
      obtain ⟨f0, f1, f2, f3, f4, f5, f6, f7⟩ := HF.out _ hx1
      dsimp only at f2 f3 f4 f5
      clear f6 f7 f0 f1
      go_wp2_with fail
      go_loopw [4, 6, 60] (fun s _ i wr => ∃ k : Nat, k ≤ x.conds.length ∧ i = .int .i64 k ∧ s = .bool (b && (x.conds.take k).all (fun c => condB c x.cells.length x.letters.length)) ∧ Ext (w.alloc (ruleO x ⟨pa, pac, pb, pbc, pc, pcc, pd, pdc⟩)) wr) (fun _ _ i _ => x.conds.length - (intOf i).toNat)
      case atStart => exact ⟨0, Nat.zero_le _, rfl, by simp, hx1⟩
      case round =>
        obtain ⟨k, hk, rfl, rfl, hx⟩ := hrel
        clear f2 f3 f4 f5
        obtain ⟨f0, f1, f2, f3, f4, f5, f6, f7⟩ := HF.out _ hx
        dsimp only at f2 f3 f4 f5
        clear f0 f1 f6 f7
        by_cases hlt : k < x.conds.length
        · obtain ⟨ad, B1, b1, C1, c1, hA, hab, r1, r2, -, -, g0, g1, g2, g3⟩ := (k3.to hx).condAt k hlt
          subst hA
          have hs := all_take x.conds (fun c => condB c x.cells.length x.letters.length) k hlt
          have Hs := hid hs; clear hs
          cases hb : (b && (x.conds.take k).all (fun c => condB c x.cells.length x.letters.length))
          · go_wp2_with fail
            go_roundw
            case rel => exact ⟨k + 1, by omega, by go_num, bool_eq (by rw [Hs.out]; grind), hx.al _⟩
            case measure => simp [intOf]; omega
          · have hsz : w.heap.size < wr.heap.size := by have := hx.size; simp at this; omega
            obtain ⟨-, -, e2, e3, -, -, -, -⟩ := HF.out _ (hx.al (condO x.conds[k] B1 b1 C1 c1))
            dsimp only at e2 e3
            go_wp2_with (go_at_call 76; refine (lmCond_ok _ x.conds[k] B1 b1 C1 c1 (r1.to ((Ext.rfl' _).al _)) (r2.to ((Ext.rfl' _).al _)) _ _).mono ?_; rintro e w1 ⟨rfl, hx2⟩)
            go_roundw
            case rel => exact ⟨k + 1, by omega, by go_num, bool_eq (by rw [Hs.out]; grind), (hx.al _).tr hx2⟩
            case measure => simp [intOf]; omega
        · have hall : x.conds.all (fun c => condB c x.cells.length x.letters.length) = (x.conds.take k).all (fun c => condB c x.cells.length x.letters.length) := by rw [List.take_of_length_le (by omega)]
          rw [← hall]
          have Hval2 := Hval.out
          clear hall Hval
          generalize (b && x.conds.all (fun c => condB c x.cells.length x.letters.length)) = b2 at *
          have Hval := hid Hval2; clear Hval2
          go_wp2_with fail
          go_loopw [3, 4, 8, 79] (fun l s _ i wr => ∃ (k : Nat) (A : Option Addr) (c : Nat), k ≤ x.premises.length ∧ i = .int .i64 k ∧ l = .slice A k c ∧ OwnI wr (w.alloc (ruleO x ⟨pa, pac, pb, pbc, pc, pcc, pd, pdc⟩)).heap.size (.slice A k c) ((x.premises.take k).map (·.cell)) ∧ s = .bool (b2 && (x.premises.take k).all (premB x)) ∧ Ext (w.alloc (ruleO x ⟨pa, pac, pb, pbc, pc, pcc, pd, pdc⟩)) wr) (fun _ _ _ i _ => x.premises.length - (intOf i).toNat)
          case atStart => exact ⟨0, none, 0, Nat.zero_le _, rfl, rfl, OwnI.nil _ _, by simp, hx⟩
          case round =>
            clear hx f2 f3 f4 f5
            obtain ⟨k, A, ca, hk, rfl, rfl, hown, rfl, hx⟩ := hrel
            obtain ⟨f0, f1, f2, f3, f4, f5, f6, f7⟩ := HF.out _ hx
            dsimp only at f2 f3 f4 f5
            clear f0 f1 f6 f7
            have hsz : w.heap.size < wr.heap.size := by have := hx.size; simp at this; omega
            by_cases hlt : k < x.premises.length
            · obtain ⟨ad, B1, b1, hA, hab, r1, r2, y0, y1⟩ := k4.premAt k hlt
              have g0 := cellE hx y0 (by rw [block_of_add]; exact hab)
              have g1 := cellE hx y1 (by rw [block_of_add]; exact hab)
              clear y0 y1
              subst hA
              have hs := all_take x.premises (premB x) k hlt
              have Hs := hid hs; clear hs
              have hc1 : ((wr.alloc (premO x.premises[k] B1 b1)).alloc (.cells #[.int .i64 x.premises[k].cell] 3)).cell? ⟨wr.heap.size + 1, 0, none⟩ = some (.int .i64 x.premises[k].cell) := by simp [go_sem]
              have HC1 := hid hc1; clear hc1
              have xa := (hx.al (premO x.premises[k] B1 b1)).al (.cells #[.int .i64 x.premises[k].cell] 3)
              have owna : OwnI ((wr.alloc (premO x.premises[k] B1 b1)).alloc (.cells #[.int .i64 x.premises[k].cell] 3)) (w.alloc (ruleO x ⟨pa, pac, pb, pbc, pc, pcc, some ad, pdc⟩)).heap.size (.slice A k ca) ((x.premises.take k).map (·.cell)) := hown.to (((Ext.rfl' _).al _).al _)
              have blk : Blk ((wr.alloc (premO x.premises[k] B1 b1)).alloc (.cells #[.int .i64 x.premises[k].cell] 3)) wr.heap.size 53 #[.int .i64 x.premises[k].cell, .slice B1 x.premises[k].letters.length b1] := (Blk.new wr _ _).ext ((Ext.rfl' _).al _)
              have Hblk := hid blk; clear blk
              have ht : (x.premises.take (k + 1)).map (·.cell) = (x.premises.take k).map (·.cell) ++ [x.premises[k].cell] := by rw [List.take_succ_eq_append_getElem hlt, List.map_append]; rfl
              have Ht := hid ht; clear ht
              cases hb : (b2 && (x.premises.take k).all (premB x))
              · go_wp2_with (at_builtin; refine app_at (w.alloc (ruleO x ⟨pa, pac, pb, pbc, pc, pcc, some ad, pdc⟩)) xa rfl _ _ rfl A k ca _ rfl owna _ (x.premises[k].cell) rfl HC1.out r2 (by omega) ?_; intro A' c' w2 hown2 hx2 _)
                go_roundw
                case rel => exact ⟨k + 1, A', c', by omega, by go_num, rfl, hown2.as rfl Ht.out.symm, bool_eq (by rw [Hs.out]; grind), hx2⟩
                case measure => simp [intOf]; omega
              · obtain ⟨-, -, -, e3, -, -, -, -⟩ := HF.out _ hx
                dsimp only at e3
                go_wp2_with (first
                  | (at_builtin; refine app_at (w.alloc (ruleO x ⟨pa, pac, pb, pbc, pc, pcc, some ad, pdc⟩)) xa rfl _ _ rfl A k ca _ rfl owna _ (x.premises[k].cell) rfl HC1.out r2 (by omega) ?_; intro A' c' w2 hown2 hx2 hg2; obtain ⟨-, -, -, q3, -, -, -, -⟩ := HF.out _ hx2; dsimp only at q3; have q1 := (Hblk.out.grown hg2 hown.at_ne).cell 1; simp only [List.getElem?_toArray, List.getElem?_cons_succ, List.getElem?_cons_zero] at q1)
                  | (go_at_call 75; refine (lmIdx_ok _ B1 b1 x.premises[k].letters (r1.to hx2) _ _).mono ?_; rintro e w' ⟨rfl, rfl⟩))
                go_roundw
                case rel => exact ⟨k + 1, A', c', by omega, by go_num, rfl, hown2.as rfl Ht.out.symm, bool_eq (by rw [Hs.out]; grind [premB]), hx2⟩
                case measure => simp [intOf]; omega
            · have hall : x.premises.take k = x.premises := List.take_of_length_le (by omega)
              rw [hall] at hown ⊢
              have hR := hown.ints
              have hk3 : k = x.premises.length := by omega
              have hcall := lmIdx_ok wr A ca _ hR x.cells.length 0
              rw [List.length_map] at hcall
              have HC := hid hcall; clear hcall hall hlt
              subst hk3
              cases hb : (b2 && x.premises.all (premB x))
              · rw [hb] at Hval
                go_wp2_with fail
                go_ret
                exact ⟨ret_int (by unfold validRE; rw [Hval.out]; rfl), x0.tr hx⟩
              · rw [hb] at Hval
                cases hD : diffB (x.premises.map (·.cell)) x.cells.length
                · have hI : indicesB (x.premises.map (·.cell)) x.cells.length 0 = false := by unfold indicesB; rw [hD]; rfl
                  go_wp2_with (go_at_call 75; (with_reducible refine HC.out.mono ?_); rintro e w' ⟨rfl, rfl⟩)
                  go_ret
                  exact ⟨ret_int (by unfold validRE; rw [Hval.out, hD]; rfl), x0.tr hx⟩
                · have hI : indicesB (x.premises.map (·.cell)) x.cells.length 0 = true := by unfold indicesB; rw [hD, decide_eq_true (by omega)]; rfl
                  go_wp2_with (go_at_call 75; (with_reducible refine HC.out.mono ?_); rintro e w' ⟨rfl, rfl⟩)
                  go_ret
                  exact ⟨ret_int (by unfold validRE; rw [Hval.out, hD]; rfl), x0.tr hx⟩
end Go.Proofs.YtimkijmjbnmcbaaGreat
