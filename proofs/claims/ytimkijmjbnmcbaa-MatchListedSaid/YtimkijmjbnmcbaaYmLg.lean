/- Contract: an instance of a lemma up to a level fits, and removes something (the law's own function). -/
import Derived.Test.YtimkijmjbnmcbaaYmLf
import Derived.Test.YtimkijmjbnmcbaaYmLb
import Derived.Test.YtimkijmjbnmcbaaYmOn
namespace Go.Proofs.Ytimkijmjbnmcbaa
open Go Go.RowKit
/-- What the law's function has captured. -/
def CapBox (W : World) (g : Nat) (q : Problem) (p : PPtr) (n : Nat) (A : Option Addr) (a : Nat) (B : Option Addr) (bn bc : Nat) (P : Option Addr) (np : Nat) (pn : Nat) (level : Int) : Prop :=
  ProbBox W g q p ∧ W.cell? ⟨g + 1, 0, none⟩ = some (.slice A n a) ∧ W.cell? ⟨g + 1, 1, none⟩ = some (.slice B bn bc) ∧ W.cell? ⟨g + 1 + 1, 0, none⟩ = some (.slice P np pn) ∧ W.cell? ⟨g + 1 + 1 + 1, 0, none⟩ = some (.int .i64 level)
set_option maxRecDepth 100000 in
set_option maxHeartbeats 8000000 in
theorem lListed1_ok (w : World) (q : Problem) (p : PPtr) (l : List Rule) (A : Option Addr) (a : Nat) (B : Option Addr) (bn bc : Nat) (P : Option Addr) (pn : Nat) (pos : List Int) (level : Int) (i : Inst) (z : IPtr) (g : Nat) (hg : g + 1 + 1 + 1 < w.heap.size) (hb : CapBox w g q p l.length A a B bn bc P pos.length pn level)
    (hq : RProb w q p) (hl : RRules w A l) (hP : RInts w P pos) (hi : RInstP w i z) :
    Calls Try.prog 19 #[instW i z, .pointer (some ⟨g, 0, none⟩), .pointer (some ⟨g + 1, 0, none⟩), .pointer (some ⟨g + 1 + 1, 0, none⟩), .pointer (some ⟨g + 1 + 1 + 1, 0, none⟩)] w fun e w' => e = .returned (.bool (remvB q l pos level i)) ∧ Ext w w' := by
  obtain ⟨pa, pac, pb, pbc, pc, pcc⟩ := p
  obtain ⟨t, ci, si⟩ := i
  obtain ⟨C, cn, D, dn⟩ := z
  have x0 := (Ext.rfl' w).al (instC t ci si C cn D dn)
  have F : ∀ V, Ext (w.alloc (instC t ci si C cn D dn)) V → CapBox V g q ⟨pa, pac, pb, pbc, pc, pcc⟩ l.length A a B bn bc P pos.length pn level ∧ (V.cell? ⟨w.heap.size, 0, none⟩ = some (.int .i64 t) ∧ V.cell? ⟨w.heap.size, 1, none⟩ = some (.slice C ci.length cn) ∧ V.cell? ⟨w.heap.size, 2, none⟩ = some (.slice D si.length dn)) := fun V hV => by
    obtain ⟨⟨b0, b1, b2, b3, b4⟩, b5, b6, b7, b8⟩ := hb
    have k := fun {e : Addr} {v : Value} (h : w.cell? e = some v) (hlt : e.block < w.heap.size) => cellE (x0.tr hV) h hlt
    exact ⟨⟨⟨k b0 (by show g < _; omega), k b1 (by show g < _; omega), k b2 (by show g < _; omega), k b3 (by show g < _; omega), k b4 (by show g < _; omega)⟩, k b5 (by show g + 1 < _; omega), k b6 (by show g + 1 < _; omega), k b7 (by show g + 1 + 1 < _; omega), k b8 (by show g + 1 + 1 + 1 < _; omega)⟩,
      boxE hV rfl 0 _ rfl, boxE hV rfl 1 _ rfl, boxE hV rfl 2 _ rfl⟩
  have HF := hid F; clear F hb
  obtain ⟨r1, r2, hr⟩ : ∃ a b, fitsR q l pos ⟨t, ci, si⟩ = (a, b) := ⟨_, _, rfl⟩
  have m1 := fun V hV => mFits_ok V q ⟨pa, pac, pb, pbc, pc, pcc⟩ l A a B bn bc P pn pos ⟨t, ci, si⟩ ⟨C, cn, D, dn⟩ (hq.to (x0.tr hV)) (hl.to (x0.tr hV)) (hP.to (x0.tr hV)) (hi.to (x0.tr hV))
  unfold RetBE at m1
  rw [hr] at m1
  have M1 := hid m1; clear m1
  obtain ⟨⟨⟨f0, f1, f2, f3, f4⟩, f5, f6, f7, f8⟩, e0, e1, e2⟩ := HF.out _ (Ext.rfl' _)
  dsimp only at f2 f3 f4
  cases r1
  · have Hv := hid (show remvB q l pos level ⟨t, ci, si⟩ = false by unfold remvB; rw [hr]; rfl)
    clear hr
    go_enter Try.func19, Try.ntmps19
    go_wp2_with (go_at_call 13; refine (M1.out _ (Ext.rfl' _)).mono ?_; rintro e w3 ⟨rfl, hb3⟩)
    go_ret
    exact ⟨ret_bool Hv.out.symm, x0.tr hb3⟩
  have hy := fitsR_yes hr rfl
  obtain ⟨hlib, ⟨h0, h1⟩, hin, hfit, hz⟩ := hy
  dsimp only at h0 h1 hin hfit hz
  subst hz
  obtain ⟨k, rfl⟩ : ∃ k : Nat, t = k := ⟨t.toNat, by omega⟩
  have hk : k < l.length := by omega
  have hrn : ruleN l ((k : Int).toNat) = l[k] := by rw [show ((k : Int).toNat) = k from by omega, ruleN_eq hk]
  rw [hrn] at hin hfit
  have Hv := hid (show remvB q l pos level ⟨k, ci, si⟩ = (decide (l[k].level ≤ level) && remB pos l[k] ci si) by unfold remvB; rw [hr]; dsimp only; rw [hrn]; rfl)
  clear hr hrn
  have hvr : validR l[k] = true := lib_rule hlib hk
  have hvp := valid_pre hvr
  obtain ⟨-, -, ⟨hc0, hc1⟩, ⟨hs0, hs1⟩, -, -⟩ := hvp
  have hfit2 := hfit
  unfold fitB at hfit2
  simp only [Bool.and_eq_true] at hfit2
  obtain ⟨⟨⟨⟨-, hdc⟩, hds⟩, -⟩, -⟩ := hfit2
  unfold instB at hin
  simp only [Bool.and_eq_true, Bool.not_eq_true', bne_eq_false_iff_eq] at hin
  obtain ⟨⟨hic, -⟩, his, -⟩ := hin
  obtain ⟨⟨hck, -⟩, -⟩ : (checkB q pos = true ∧ decide (l.length ≤ 16) = true) ∧ l.all validR = true := by unfold libB at hlib; simpa only [Bool.and_eq_true] using hlib
  have hck2 := hck
  unfold checkB okPos validB at hck2
  simp only [Bool.and_eq_true, decide_eq_true_eq] at hck2
  have hpl : (pos.length : Int) = q.cells := hck2.2.1
  have hsy : q.symbols ≤ 16 := hck2.1.1.1.1.2.2.2.1
  clear hck hck2
  have g0 := diff_iff hdc (num ci l[k].cell.toNat) (by rw [num_eq (by omega)]; exact List.getElem_mem _)
  have g1 := diff_iff hds (num si l[k].letter.toNat) (by rw [num_eq (by omega)]; exact List.getElem_mem _)
  clear hdc hds hfit hlib
  obtain ⟨ad, p', rfl, hab, hps, k0, k1, k2, k3, k4, k5, k6, k7⟩ := (hl.to x0).ruleLoad k hk
  have R : ∀ V, Ext (w.alloc (instC k ci si C cn D dn)) V → RuleAt V (ad.add (k * 8)) l[k] p' := fun V hV => RuleAt.keep hV (by rw [block_of_add]; exact hab) ⟨k0, k1, k2, k3, k4, k5, k6, k7⟩
  have HR := hid R; clear R hab k0 k1 k2 k3 k4 k5 k6 k7
  have hC := hi.cells
  have hD := hi.symbols
  dsimp only at hC hD
  obtain ⟨cd, rfl, hcb, hcc, _⟩ := hC.num (by omega)
  have c1 := hcc l[k].cell.toNat (by omega)
  obtain ⟨sd, rfl, hsb, hsc, _⟩ := hD.num (by omega)
  have s1 := hsc l[k].letter.toNat (by omega)
  obtain ⟨pd, rfl, hpb, hpc, _⟩ := hP.num (by omega)
  have p1 := hpc (num ci l[k].cell.toNat).toNat (by omega)
  have hw : IntKind.u64.wrap (num si l[k].letter.toNat) = num si l[k].letter.toNat := by rw [IntKind.wrap_u64]; omega
  have hbt := shr_bit (x := num pos (num ci l[k].cell.toNat).toNat) g1.1 (by omega)
  have G : ∀ V, Ext (w.alloc (instC k ci si (some cd) cn (some sd) dn)) V →
      V.cell? (cd.add l[k].cell.toNat) = some (.int .i64 (num ci l[k].cell.toNat)) ∧ V.cell? (sd.add l[k].letter.toNat) = some (.int .i64 (num si l[k].letter.toNat)) ∧ V.cell? (pd.add (num ci l[k].cell.toNat).toNat) = some (.int .i64 (num pos (num ci l[k].cell.toNat).toNat)) := fun V hV =>
    ⟨cellE (x0.tr hV) c1 (by rw [block_of_add]; exact hcb), cellE (x0.tr hV) s1 (by rw [block_of_add]; exact hsb), cellE (x0.tr hV) p1 (by rw [block_of_add]; exact hpb)⟩
  have HG := hid G; clear G hcc hsc hpc c1 s1 p1 hC hD hi hcb hsb hpb
  have hsym : num si l[k].letter.toNat < 16 := by omega
  have hcel : num ci l[k].cell.toNat < (pos.length : Int) := by omega
  have hll := hl.len
  go_enter Try.func19, Try.ntmps19
  go_upto_region 4 with (go_at_call 13; refine (M1.out _ (Ext.rfl' _)).mono ?_; rintro e w1 ⟨rfl, hb1⟩; clear f0 f1 f2 f3 f4 f5 f6 f7 f8 e0 e1 e2; obtain ⟨⟨⟨f0, f1, f2, f3, f4⟩, f5, f6, f7, f8⟩, e0, e1, e2⟩ := HF.out _ hb1; dsimp only at f2 f3 f4)
  obtain ⟨k0, k1, k2, k3, k4, k5, k6, k7⟩ := HR.out w1 hb1
  go_upto_region 5 with fail
  clear f0 f1 f2 f3 f4 f5 f6 f7 f8 e0 e1 e2 k0 k1 k2 k3 k4 k5 k6 k7
  obtain ⟨w2, hw2⟩ : ∃ w2, w1.alloc (ruleO l[k] p') = w2 := ⟨_, rfl⟩
  have hb2 : Ext w1 w2 := by rw [← hw2]; exact (Ext.rfl' _).al _
  have hrb : ∀ V, Ext w2 V → RuleBox V w1.heap.size l[k] p' := fun V hV => ruleBox (by rw [hw2]; exact hV) rfl
  have Hrb := hid hrb; clear hrb
  have y2 := hb1.tr hb2
  rw [hw2]
  clear hw2
  obtain ⟨k0, k1, k2, k3, k4, k5, k6, k7⟩ := Hrb.out w2 (Ext.rfl' _)
  obtain ⟨⟨⟨f0, f1, f2, f3, f4⟩, f5, f6, f7, f8⟩, e0, e1, e2⟩ := HF.out w2 y2
  dsimp only at f2 f3 f4
  by_cases hlv : level < l[k].level
  · have Hv2 := hid (Hv.out.trans (show (decide (l[k].level ≤ level) && _) = false by rw [decide_eq_false (by omega)]; rfl))
    go_wp2_with fail
    go_ret
    exact ⟨ret_bool Hv2.out.symm, x0.tr y2⟩
  have Hv2 := hid (Hv.out.trans (show (decide (l[k].level ≤ level) && remB pos l[k] ci si) = remB pos l[k] ci si by rw [decide_eq_true (by omega)]; rfl))
  have H3 : Hid (∀ V, Ext w2 V → ((V.cell? ⟨w.heap.size, 1, none⟩ = some (.slice (some cd) ci.length cn) ∧ V.cell? ⟨w.heap.size, 2, none⟩ = some (.slice (some sd) si.length dn)) ∧ (V.cell? ⟨w1.heap.size, 6, none⟩ = some (.int .i64 l[k].cell) ∧ V.cell? ⟨w1.heap.size, 7, none⟩ = some (.int .i64 l[k].letter)) ∧ V.cell? ⟨g + 1 + 1, 0, none⟩ = some (.slice (some pd) pos.length pn)) ∧
      V.cell? (cd.add l[k].cell.toNat) = some (.int .i64 (num ci l[k].cell.toNat)) ∧ V.cell? (sd.add l[k].letter.toNat) = some (.int .i64 (num si l[k].letter.toNat)) ∧ V.cell? (pd.add (num ci l[k].cell.toNat).toNat) = some (.int .i64 (num pos (num ci l[k].cell.toNat).toNat))) := hid fun V hV => by
    obtain ⟨⟨-, -, -, f7, -⟩, -, e1, e2⟩ := HF.out V (y2.tr hV)
    obtain ⟨-, -, -, -, -, -, k6, k7⟩ := Hrb.out V hV
    exact ⟨⟨⟨e1, e2⟩, ⟨k6, k7⟩, f7⟩, HG.out V (y2.tr hV)⟩
  go_wp2_with fail
  (refine wp_region_sf (fun _ => none) (by kernel_rfl) (by kernel_rfl) ?_); (repeat (first | (refine wpE_skipK ?_ ?_; (focus ((first | refine wanted_notF rfl rfl ?_ | refine wanted_notT rfl rfl ?_); (focus (simp only [List.getElem?_toArray, List.getElem?_cons_succ, List.getElem?_cons_zero]; done)))); intro K hK; go_simp; apply hK; clear hK K; (have hq9 : True := trivial); clear hq9) | (refine wpE_detN rfl rfl (fun K hK => ?_); apply Exists.intro; apply And.intro; (focus (rintro W ⟨hx, -⟩; obtain ⟨⟨⟨q0, q1⟩, ⟨q2, q3⟩, q4⟩, q5, q6, q7⟩ := H3.out W hx; go_simp; all_goals rfl)); go_simp; apply hK; clear hK K; (have hq9 : True := trivial); clear hq9) | (refine wpE_detK rfl ?_ ?_; (focus (refine wanted_so rfl rfl ?_; (focus (simp only [List.getElem?_toArray, List.getElem?_cons_succ, List.getElem?_cons_zero]; done)))); intro K hK; apply Exists.intro; apply And.intro; (focus (rintro W ⟨hx, -⟩; obtain ⟨⟨⟨q0, q1⟩, ⟨q2, q3⟩, q4⟩, q5, q6, q7⟩ := H3.out W hx; go_simp; all_goals rfl)); go_simp; apply hK; clear hK K; (have hq9 : True := trivial); clear hq9))); (apply wpE_nil); (rintro W ⟨hW, hG⟩); clear hG
  clear f0 f1 f2 f3 f4 f5 f6 f7 f8 e0 e1 e2 k0 k1 k2 k3 k4 k5 k6 k7
  obtain ⟨⟨⟨q0, q1⟩, ⟨q2, q3⟩, q4⟩, q5, q6, q7⟩ := H3.out W hW
  go_wp2_with fail
  go_ret
  exact ⟨ret_bool (by rw [Hv2.out]; rfl), x0.tr (y2.tr hW)⟩
end Go.Proofs.Ytimkijmjbnmcbaa
