/- Contract: a constraint that a finished grid meets (the reference), as far as it is needed. -/
import Derived.Test.YtimkijmjbnmcbaaGreatYmGf
import Derived.Test.YtimkijmjbnmcbaaGreatYm23
namespace Go.Proofs.YtimkijmjbnmcbaaGreat
open Go Go.RowKit
/-- A finished grid of a valid problem. -/
structure Fin (q : Problem) (grid : List Int) : Prop where
  valid : validB q = true
  len : (grid.length : Int) = q.cells
  sym : Sym grid q.symbols.toNat
theorem Fin.sym16 {q : Problem} {grid : List Int} (h : Fin q grid) : Sym grid 16 := fun x hx => by have := valid_bd h.valid; have := h.sym x hx; omega
theorem valid_more {q : Problem} (hv : validB q = true) : (q.values.length : Int) = q.symbols ∧ Num q.values 99 ∧ gOk q.neighbors = true := by
  unfold validB at hv
  simp only [Bool.and_eq_true, decide_eq_true_eq] at hv
  refine ⟨hv.1.1.1.2.2.2.2.1, fun x hx => ?_, hv.1.2⟩
  have h := hv.1.1.2
  unfold inB at h
  have := List.all_eq_true.1 h x hx
  simpa only [Bool.and_eq_true, decide_eq_true_eq] using this
theorem Fin.symV {q : Problem} {grid : List Int} (h : Fin q grid) : Sym grid q.values.length := fun x hx => by have := (valid_more h.valid).1; have := h.sym x hx; omega
theorem Fin.idx {q : Problem} {grid : List Int} (h : Fin q grid) {c : Cons} (hc : c ∈ q.cons) : Idx c.cells grid.length := cons_idx h.valid hc h.len
theorem diffG_nodup {grid cells : List Int} (h : diffG grid cells = true) : (cells.map (gat grid)).Nodup := by
  rw [List.nodup_iff_pairwise_ne, List.pairwise_iff_getElem]
  intro i j hi hj hij
  simp only [List.length_map] at hi hj
  unfold diffG at h
  have h1 := List.all_eq_true.1 h j (List.mem_range.2 hj)
  have h2 := List.all_eq_true.1 h1 i (List.mem_range.2 hij)
  rw [num_eq hi, num_eq hj] at h2
  simp only [Bool.not_eq_true', beq_eq_false_iff_ne] at h2
  simp only [List.getElem_map]
  exact fun e => h2 e.symm
theorem pair_of_next : ∀ {l : List Int}, (∀ i, 0 < i → i < l.length → num l (i - 1) < num l i) → l.Pairwise (· < ·)
  | [], _ => List.Pairwise.nil
  | [a], _ => by simp
  | a :: b :: l, h => by
    have ih : (b :: l).Pairwise (· < ·) := pair_of_next fun i h0 hi => by
      have := h (i + 1) (by omega) (by simpa using hi)
      simpa [num, show i + 1 - 1 = i - 1 + 1 by omega] using this
    have hab : a < b := by simpa [num] using h 1 (by decide) (by simp)
    rw [List.pairwise_cons]
    refine ⟨fun x hx => ?_, ih⟩
    rcases List.mem_cons.1 hx with rfl | hx
    · exact hab
    · have := (List.pairwise_cons.1 ih).1 x hx; omega
theorem riseG_pair {q : Problem} {grid cells : List Int} (h : riseG q.values grid cells = true) : (cells.map (valOf q grid)).Pairwise (· < ·) := by
  apply pair_of_next
  intro i h0 hi
  rw [List.length_map] at hi
  unfold riseG at h
  have h1 := List.all_eq_true.1 h i (List.mem_range.2 hi)
  rw [Bool.or_eq_true, beq_iff_eq, decide_eq_true_eq] at h1
  rcases h1 with h1 | h1
  · omega
  · have e1 : num (cells.map (valOf q grid)) i = valOf q grid (num cells i) := by rw [num_eq (by simpa using hi), num_eq hi]; simp
    have e2 : num (cells.map (valOf q grid)) (i - 1) = valOf q grid (num cells (i - 1)) := by rw [num_eq (by simp; omega), num_eq (by omega)]; simp
    rw [e1, e2]; exact h1
def RetMet (w : World) (q : Problem) (c : Cons) (grid : List Int) (e : Ending) (w' : World) : Prop := ∃ b : Bool, e = .returned (.bool b) ∧ (b = true → GoodC q grid c) ∧ Ext w w'
def SF.someList : SF := ⟨fun W v => ∃ (l : List Int) (X : Option Addr) (xc : Nat), v = .slice X l.length xc ∧ RInts W X l, fun _ _ _ hb ⟨l, X, xc, e, h⟩ => ⟨l, X, xc, e, h.to hb⟩⟩
def SF.someBool : SF := ⟨fun _ v => ∃ b, v = .bool b, fun _ _ _ _ h => h⟩
def SF.bools (n : Nat) : SF := ⟨fun W v => ∃ (l : List Bool) (g : Nat), l.length = n ∧ v = .slice (some ⟨g, 0, none⟩) n n ∧ BB W g l, fun _ _ _ hb ⟨l, g, h1, h2, h3⟩ => ⟨l, g, h1, h2, h3.ext hb⟩⟩
theorem goodC_other {q : Problem} {grid : List Int} {c : Cons} (h1 : c.kind ≠ 1) (h2 : c.kind ≠ 2) (h4 : c.kind ≠ 4) (h6 : c.kind ≠ 6) : GoodC q grid c := ⟨fun e => absurd e h1, fun e => absurd e h2, fun e => absurd e h4, fun e => absurd e h6⟩
theorem apart20_e (w : World) (a b n : Int) (ha : 0 ≤ a ∧ a ≤ 99) (hb : 0 ≤ b ∧ b ≤ 99) (bo : Bool) (h : (decide (n ≤ a - b) || decide (n ≤ b - a)) = bo) : Calls Tryz.prog 62 #[.int .i64 a, .int .i64 b, .int .i64 n] w fun e w' => e = .returned (.bool bo) ∧ Ext w w' :=
  (apart20_ok w a b n ha hb).mono fun _ _ ⟨he, hw⟩ => ⟨by rw [he, h], by subst hw; exact Ext.rfl' _⟩
set_option maxRecDepth 100000 in
set_option maxHeartbeats 8000000 in
theorem met20_ok (w : World) (q : Problem) (p : PPtr) (c : Cons) (A : Option Addr) (a : Nat) (B : Option Addr) (b : Nat) (G : Option Addr) (gc : Nat) (grid : List Int) (hq : RProb w q p) (hG : RInts w G grid) (hA : RInts w A c.cells) (hB : RInts w B c.runs) (hf : Fin q grid) (hc : c ∈ q.cons) :
    Calls Tryz.prog 30 #[probV q p, consV c A a B b, .slice G grid.length gc] w (RetMet w q c grid) := by
  have hidx := hf.idx hc
  have hs16 := hf.sym16
  have hsV := hf.symV
  obtain ⟨hv1, hv99, hgok⟩ := valid_more hf.valid
  have hfi := fine_of hf.valid hc
  have hcl := cons_len hf.valid hc
  unfold fineB kindOk at hfi
  simp only [Bool.and_eq_true, decide_eq_true_eq] at hfi
  obtain ⟨hk1, hk9, hk67, hk89⟩ := hfi.1.2
  have hgl : grid.length = q.neighbors.length := by have := (valid_cons hf.valid).2; have := hf.len; omega
  have Hgl := hid hgl
  clear hfi hf hc hgl hv1
  obtain ⟨kind, cells, set, other, lo, hi, runs, rule, at9⟩ := c
  dsimp only at hidx hcl hk1 hk9 hk67 hk89 hA hB
  obtain ⟨pa, pac, pb, pbc, pc, pcc⟩ := p
  have x0 := ((Ext.rfl' w).al (probO q ⟨pa, pac, pb, pbc, pc, pcc⟩)).al (consO ⟨kind, cells, set, other, lo, hi, runs, rule, at9⟩ A a B b)
  have F : ∀ V, Ext ((w.alloc (probO q ⟨pa, pac, pb, pbc, pc, pcc⟩)).alloc (consO ⟨kind, cells, set, other, lo, hi, runs, rule, at9⟩ A a B b)) V → ProbBox V w.heap.size q ⟨pa, pac, pb, pbc, pc, pcc⟩ ∧ ConsBox V (w.heap.size + 1) ⟨kind, cells, set, other, lo, hi, runs, rule, at9⟩ A a B b := fun V hV =>
    ⟨probBox (((Ext.rfl' _).al _).tr hV) rfl, consBox hV (by simp)⟩
  have HF := hid F; clear F
  obtain ⟨⟨f0, f1, f2, f3, f4⟩, g0, g1, g2, g3, g4, g5, g6, g7, g8⟩ := HF.out _ (Ext.rfl' _)
  dsimp only at f2 f3 f4 g0 g1 g2 g3 g4 g5 g6 g7 g8
  have hV0 := hq.values
  have hN0 := hq.neighbors
  dsimp only at hV0 hN0
  clear hq
  have hk : kind = 1 ∨ kind = 2 ∨ kind = 3 ∨ kind = 4 ∨ kind = 5 ∨ kind = 6 ∨ kind = 7 ∨ kind = 8 ∨ kind = 9 := by omega
  rcases hk with rfl | rfl | rfl | rfl | rfl | rfl | rfl | rfl | rfl
  · have hd := diff20_ok _ G A gc a grid cells (hG.to x0) (hA.to x0) hidx
    have Hd := hid hd; clear hd
    go_enter Tryz.func30, Tryz.ntmps30
    go_wp2_with (go_at_call 56; refine Hd.out.mono ?_; rintro e w1 ⟨rfl, hb1⟩)
    go_ret
    exact ⟨_, rfl, fun e => ⟨fun _ => diffG_nodup e, fun h => (by cases h), fun h => (by cases h), fun h => (by cases h)⟩, x0.tr hb1⟩
  · have hd := count20_ok _ G A gc a grid cells set (hG.to x0) (hA.to x0) hs16 hidx
    have Hd := hid hd; clear hd
    by_cases h1 : lo ≤ (cntS grid cells set : Int)
    · by_cases h2 : (cntS grid cells set : Int) ≤ hi
      · go_enter Tryz.func30, Tryz.ntmps30
        go_wp2_with (go_at_call 57; refine Hd.out.mono ?_; rintro e w1 ⟨rfl, rfl⟩)
        go_ret
        exact ⟨_, rfl, fun _ => ⟨fun h => (by cases h), fun _ => ⟨h1, h2⟩, fun h => (by cases h), fun h => (by cases h)⟩, x0⟩
      · go_enter Tryz.func30, Tryz.ntmps30
        go_wp2_with (go_at_call 57; refine Hd.out.mono ?_; rintro e w1 ⟨rfl, rfl⟩)
        go_ret
        exact ⟨_, rfl, fun e => (by have := of_decide_eq_true e; omega), x0⟩
    · go_enter Tryz.func30, Tryz.ntmps30
      go_wp2_with (go_at_call 57; refine Hd.out.mono ?_; rintro e w1 ⟨rfl, rfl⟩)
      go_ret
      exact ⟨false, rfl, fun e => (by cases e), x0⟩
  · have hd := sum20_ok _ pa G A pac gc a q.values grid cells (hV0.to x0) (hG.to x0) (hA.to x0) hsV hidx hv99
    have Hd := hid hd; clear hd
    go_enter Tryz.func30, Tryz.ntmps30
    go_wp2_with (go_at_call 58; refine Hd.out.mono ?_; rintro e w1 ⟨⟨n, rfl⟩, rfl⟩)
    all_goals go_ret
    all_goals exact ⟨_, rfl, fun _ => goodC_other (by show (3 : Int) ≠ 1; decide) (by show (3 : Int) ≠ 2; decide) (by show (3 : Int) ≠ 4; decide) (by show (3 : Int) ≠ 6; decide), x0⟩
  · have hd := rise20_ok _ pa G A pac gc a q.values grid cells (hV0.to x0) (hG.to x0) (hA.to x0) hsV hidx
    have Hd := hid hd; clear hd
    go_enter Tryz.func30, Tryz.ntmps30
    go_wp2_with (go_at_call 59; refine Hd.out.mono ?_; rintro e w1 ⟨rfl, hb1⟩)
    go_ret
    exact ⟨_, rfl, fun e => ⟨fun h => (by cases h), fun h => (by cases h), fun _ => riseG_pair e, fun h => (by cases h)⟩, x0.tr hb1⟩
  · have hd := fun W hW => runs20_ok W G A gc a grid cells set (hG.to (x0.tr hW)) (hA.to (x0.tr hW)) hs16 hidx (by omega)
    have Hd := hid hd; clear hd
    have RB := hB.to x0
    clear f0 f1 f2 f3 f4 g0 g1 g2 g3 g4 g5 g6 g7 g8
    obtain ⟨⟨f0, f1, f2, f3, f4⟩, g0, g1, g2, g3, g4, g5, g6, g7, g8⟩ := HF.out _ (Ext.rfl' _)
    dsimp only at f2 f3 f4 g0 g1 g2 g3 g4 g5 g6 g7 g8
    go_enter Tryz.func30, Tryz.ntmps30
    go_upto_region 13 with fail
    refine wp_region_sf (fun | 5 => some SF.someList | 8 => some SF.someBool | _ => none) (by kernel_rfl) (by kernel_rfl) ?_
    repeat (first | (refine wpE_skipK ?_ ?_; (focus ((first | refine wanted_notF rfl rfl ?_ | refine wanted_notT rfl rfl ?_); (focus (simp only [List.getElem?_toArray, List.getElem?_cons_succ, List.getElem?_cons_zero]; done)))); intro K hK; go_simp; apply hK; clear hK K; (have hq9 : True := trivial); clear hq9) | (refine wpE_detN rfl rfl (fun K hK => ?_); apply Exists.intro; apply And.intro; (focus (rintro W ⟨hx, -⟩; obtain ⟨-, q0, q1, q2, -, -, -, q6, -, -⟩ := HF.out W hx; go_simp; all_goals rfl)); go_simp; apply hK; clear hK K; (have hq9 : True := trivial); clear hq9) | (refine wpE_detK rfl ?_ ?_; (focus (refine wanted_so rfl rfl ?_; (focus (simp only [List.getElem?_toArray, List.getElem?_cons_succ, List.getElem?_cons_zero]; done)))); intro K hK; apply Exists.intro; apply And.intro; (focus (rintro W ⟨hx, -⟩; obtain ⟨-, q0, q1, q2, -, -, -, q6, -, -⟩ := HF.out W hx; go_simp; all_goals rfl)); go_simp; apply hK; clear hK K; (have hq9 : True := trivial); clear hq9))
    (first | refine wpE_newN _ rfl rfl ?_ ?_ | (refine wpE_newK _ rfl ?_ ?_ ?_; (focus (refine wanted_so rfl rfl ?_; (focus (simp only [List.getElem?_toArray, List.getElem?_cons_succ, List.getElem?_cons_zero]; done))))))
    · rintro W ⟨hW, -⟩
      go_simp
      refine ⟨Ext.rfl' _, (Hd.out W hW).mono fun e W' hr => ?_⟩
      obtain ⟨l, X, xc, rfl, h1, h2⟩ := hr
      exact ⟨_, rfl, h2, l, X, xc, rfl, h1⟩
    rintro _ ⟨_, l, X, xc, rfl, -⟩ K hK
    go_simp; apply hK; clear hK K; (have hq9 : True := trivial); clear hq9
    repeat (first | (refine wpE_skipK ?_ ?_; (focus ((first | refine wanted_notF rfl rfl ?_ | refine wanted_notT rfl rfl ?_); (focus (simp only [List.getElem?_toArray, List.getElem?_cons_succ, List.getElem?_cons_zero]; done)))); intro K hK; go_simp; apply hK; clear hK K; (have hq9 : True := trivial); clear hq9) | (refine wpE_detN rfl rfl (fun K hK => ?_); apply Exists.intro; apply And.intro; (focus (rintro W ⟨hx, -⟩; obtain ⟨-, q0, q1, q2, -, -, -, q6, -, -⟩ := HF.out W hx; go_simp; all_goals rfl)); go_simp; apply hK; clear hK K; (have hq9 : True := trivial); clear hq9) | (refine wpE_detK rfl ?_ ?_; (focus (refine wanted_so rfl rfl ?_; (focus (simp only [List.getElem?_toArray, List.getElem?_cons_succ, List.getElem?_cons_zero]; done)))); intro K hK; apply Exists.intro; apply And.intro; (focus (rintro W ⟨hx, -⟩; obtain ⟨-, q0, q1, q2, -, -, -, q6, -, -⟩ := HF.out W hx; go_simp; all_goals rfl)); go_simp; apply hK; clear hK K; (have hq9 : True := trivial); clear hq9))
    (first | refine wpE_newN _ rfl rfl ?_ ?_ | (refine wpE_newK _ rfl ?_ ?_ ?_; (focus (refine wanted_so rfl rfl ?_; (focus (simp only [List.getElem?_toArray, List.getElem?_cons_succ, List.getElem?_cons_zero]; done))))))
    · rintro W ⟨hW, hGx⟩
      obtain ⟨l', X', xc', e1, h1⟩ := (hGx ⟨5, .data⟩ (by simp) rfl).2 rfl
      injection e1 with e1 e2 e3
      subst e1 e3
      clear hGx
      go_simp
      refine ⟨Ext.rfl' _, (sameInts12_ok W X B xc b l' runs h1 (RB.to hW)).mono fun e W' hr => ?_⟩
      obtain ⟨rfl, n, rfl⟩ := hr
      exact ⟨_, rfl, (Ext.rfl' _).drN _, _, rfl⟩
    rintro _ ⟨_, bo, rfl⟩ K hK
    go_simp; apply hK; clear hK K; (have hq9 : True := trivial); clear hq9
    repeat (first | (refine wpE_skipK ?_ ?_; (focus ((first | refine wanted_notF rfl rfl ?_ | refine wanted_notT rfl rfl ?_); (focus (simp only [List.getElem?_toArray, List.getElem?_cons_succ, List.getElem?_cons_zero]; done)))); intro K hK; go_simp; apply hK; clear hK K; (have hq9 : True := trivial); clear hq9) | (refine wpE_detN rfl rfl (fun K hK => ?_); apply Exists.intro; apply And.intro; (focus (rintro W ⟨hx, -⟩; obtain ⟨-, q0, q1, q2, -, -, -, q6, -, -⟩ := HF.out W hx; go_simp; all_goals rfl)); go_simp; apply hK; clear hK K; (have hq9 : True := trivial); clear hq9) | (refine wpE_detK rfl ?_ ?_; (focus (refine wanted_so rfl rfl ?_; (focus (simp only [List.getElem?_toArray, List.getElem?_cons_succ, List.getElem?_cons_zero]; done)))); intro K hK; apply Exists.intro; apply And.intro; (focus (rintro W ⟨hx, -⟩; obtain ⟨-, q0, q1, q2, -, -, -, q6, -, -⟩ := HF.out W hx; go_simp; all_goals rfl)); go_simp; apply hK; clear hK K; (have hq9 : True := trivial); clear hq9))
    apply wpE_nil
    rintro W ⟨hW, hGx⟩
    clear hGx
    go_wp2_with fail
    go_ret
    exact ⟨_, rfl, fun _ => goodC_other (by show (5 : Int) ≠ 1; decide) (by show (5 : Int) ≠ 2; decide) (by show (5 : Int) ≠ 4; decide) (by show (5 : Int) ≠ 6; decide), x0.tr hW⟩
  · have hc2 : cells.length = 2 := by have := hk67 (.inl rfl); omega
    have hgood : ∀ bo, (decide (lo ≤ valOf q grid (num cells 0) - valOf q grid (num cells 1)) || decide (lo ≤ valOf q grid (num cells 1) - valOf q grid (num cells 0))) = bo → bo = true → GoodC q grid ⟨6, cells, set, other, lo, hi, runs, rule, at9⟩ := by
      intro bo hb e
      subst e
      refine ⟨fun h => (by cases h), fun h => (by cases h), fun h => (by cases h), fun _ x y hxy => ?_⟩
      dsimp only at hxy ⊢
      subst hxy
      rw [Bool.or_eq_true, decide_eq_true_eq, decide_eq_true_eq] at hb
      exact hb
    have Hgood := hid hgood; clear hgood
    obtain ⟨ad, bd, e1, e2, hb0, F0⟩ := gridAt (hG.to x0) (hA.to x0) hidx (k := 0) (by omega)
    subst e1 e2
    obtain ⟨_, _, e1, e2, hb1, F1⟩ := gridAt (hG.to x0) (hA.to x0) hidx (k := 1) (by omega)
    cases e1; cases e2
    obtain ⟨vd, e1, hb2, F2⟩ := valAt (hV0.to x0) hsV hidx (k := 0) (by omega)
    subst e1
    obtain ⟨_, e1, hb3, F3⟩ := valAt (hV0.to x0) hsV hidx (k := 1) (by omega)
    cases e1
    rw [show bd.add 0 = bd from by simp [Addr.add]] at F0
    rw [add_pos bd 1 (by omega)] at F1
    have HG6 : Hid (∀ V, Ext ((w.alloc (probO q ⟨some vd, pac, pb, pbc, pc, pcc⟩)).alloc (consO ⟨6, cells, set, other, lo, hi, runs, rule, at9⟩ (some bd) a B b)) V → (V.cell? ⟨w.heap.size, 2, none⟩ = some (.slice (some vd) q.values.length pac) ∧ V.cell? ⟨w.heap.size + 1, 1, none⟩ = some (.slice (some bd) cells.length a) ∧ V.cell? ⟨w.heap.size + 1, 4, none⟩ = some (.int .i64 lo)) ∧
        (V.cell? bd = some (.int .i64 (num cells 0)) ∧ V.cell? (ad.add (num cells 0).toNat) = some (.int .i64 (gat grid (num cells 0)))) ∧ (V.cell? ⟨bd.block, bd.off + 1, none⟩ = some (.int .i64 (num cells 1)) ∧ V.cell? (ad.add (num cells 1).toNat) = some (.int .i64 (gat grid (num cells 1)))) ∧
        V.cell? (vd.add (gat grid (num cells 0)).toNat) = some (.int .i64 (num q.values (gat grid (num cells 0)).toNat)) ∧ V.cell? (vd.add (gat grid (num cells 1)).toNat) = some (.int .i64 (num q.values (gat grid (num cells 1)).toNat))) := hid fun V hV => by
      obtain ⟨⟨-, -, q2, -, -⟩, -, q1, -, -, q4, -, -, -, -⟩ := HF.out V hV
      exact ⟨⟨q2, q1, q4⟩, F0 V hV, F1 V hV, F2 V hV, F3 V hV⟩
    clear F0 F1 F2 F3
    have hn0 := num_in hv99 (by decide) (gat grid (num cells 0)).toNat
    have hn1 := num_in hv99 (by decide) (gat grid (num cells 1)).toNat
    have hca : (0 : Int) < cells.length := by omega
    have hcb : (1 : Int) < cells.length := by omega
    have hcd : 0 < cells.length := by omega
    have hce : 1 < cells.length := by omega
    have Hc2 := hid hc2; clear hc2 hk67
    obtain ⟨bo, hbo⟩ : ∃ bo, (decide (lo ≤ num q.values (gat grid (num cells 0)).toNat - num q.values (gat grid (num cells 1)).toNat) || decide (lo ≤ num q.values (gat grid (num cells 1)).toNat - num q.values (gat grid (num cells 0)).toNat)) = bo := ⟨_, rfl⟩
    have Hgo := hid (Hgood.out bo hbo)
    have hap := fun W => apart20_e W _ _ lo hn0 hn1 bo hbo
    have Hap := hid hap; clear hap Hgood hbo
    go_enter Tryz.func30, Tryz.ntmps30
    go_upto_region 15 with fail
    clear f0 f1 f2 f3 f4 g0 g1 g2 g3 g4 g5 g6 g7 g8
    refine wp_region_sf (fun | 24 => some (SF.val (.bool bo)) | _ => none) (by kernel_rfl) (by kernel_rfl) ?_
    repeat (first | (refine wpE_skipK ?_ ?_; (focus ((first | refine wanted_notF rfl rfl ?_ | refine wanted_notT rfl rfl ?_); (focus (simp only [List.getElem?_toArray, List.getElem?_cons_succ, List.getElem?_cons_zero]; done)))); intro K hK; go_simp; apply hK; clear hK K; (have hq9 : True := trivial); clear hq9) | (refine wpE_detN rfl rfl (fun K hK => ?_); apply Exists.intro; apply And.intro; (focus (rintro W ⟨hx, -⟩; obtain ⟨⟨q2, q1, q4⟩, ⟨c0, d0⟩, ⟨c1, d1⟩, v0, v1⟩ := HG6.out W hx; go_simp; all_goals rfl)); go_simp; apply hK; clear hK K; (have hq9 : True := trivial); clear hq9) | (refine wpE_detK rfl ?_ ?_; (focus (refine wanted_so rfl rfl ?_; (focus (simp only [List.getElem?_toArray, List.getElem?_cons_succ, List.getElem?_cons_zero]; done)))); intro K hK; apply Exists.intro; apply And.intro; (focus (rintro W ⟨hx, -⟩; obtain ⟨⟨q2, q1, q4⟩, ⟨c0, d0⟩, ⟨c1, d1⟩, v0, v1⟩ := HG6.out W hx; go_simp; all_goals rfl)); go_simp; apply hK; clear hK K; (have hq9 : True := trivial); clear hq9))
    (first | refine wpE_newN _ rfl rfl ?_ ?_ | (refine wpE_newK _ rfl ?_ ?_ ?_; (focus (refine wanted_so rfl rfl ?_; (focus (simp only [List.getElem?_toArray, List.getElem?_cons_succ, List.getElem?_cons_zero]; done)))))); (focus (rintro W ⟨hW, -⟩; go_simp; exact ⟨Ext.rfl' _, (Hap.out W).mono fun e W' ⟨he, hb⟩ => ⟨_, he, hb, rfl⟩⟩)); (rintro _ ⟨_, rfl⟩ K hK); (go_simp; apply hK; clear hK K; (have hq9 : True := trivial); clear hq9)
    repeat (first | (refine wpE_skipK ?_ ?_; (focus ((first | refine wanted_notF rfl rfl ?_ | refine wanted_notT rfl rfl ?_); (focus (simp only [List.getElem?_toArray, List.getElem?_cons_succ, List.getElem?_cons_zero]; done)))); intro K hK; go_simp; apply hK; clear hK K; (have hq9 : True := trivial); clear hq9) | (refine wpE_detN rfl rfl (fun K hK => ?_); apply Exists.intro; apply And.intro; (focus (rintro W ⟨hx, -⟩; obtain ⟨⟨q2, q1, q4⟩, ⟨c0, d0⟩, ⟨c1, d1⟩, v0, v1⟩ := HG6.out W hx; go_simp; all_goals rfl)); go_simp; apply hK; clear hK K; (have hq9 : True := trivial); clear hq9) | (refine wpE_detK rfl ?_ ?_; (focus (refine wanted_so rfl rfl ?_; (focus (simp only [List.getElem?_toArray, List.getElem?_cons_succ, List.getElem?_cons_zero]; done)))); intro K hK; apply Exists.intro; apply And.intro; (focus (rintro W ⟨hx, -⟩; obtain ⟨⟨q2, q1, q4⟩, ⟨c0, d0⟩, ⟨c1, d1⟩, v0, v1⟩ := HG6.out W hx; go_simp; all_goals rfl)); go_simp; apply hK; clear hK K; (have hq9 : True := trivial); clear hq9))
    apply wpE_nil
    rintro W ⟨hW, hGx⟩
    clear hGx
    go_wp2_with fail
    go_ret
    exact ⟨_, rfl, Hgo.out, x0.tr hW⟩
  · have hc2 : cells.length = 2 := by have := hk67 (.inr rfl); omega
    obtain ⟨ad, bd, e1, e2, hb0, F0⟩ := gridAt (hG.to x0) (hA.to x0) hidx (k := 0) (by omega)
    subst e1 e2
    obtain ⟨_, _, e1, e2, hb1, F1⟩ := gridAt (hG.to x0) (hA.to x0) hidx (k := 1) (by omega)
    cases e1; cases e2
    rw [show bd.add 0 = bd from by simp [Addr.add]] at F0
    rw [add_pos bd 1 (by omega)] at F1
    obtain ⟨c0, d0⟩ := F0 _ (Ext.rfl' _)
    obtain ⟨c1, d1⟩ := F1 _ (Ext.rfl' _)
    have hca : (0 : Int) < cells.length := by omega
    have hcb : (1 : Int) < cells.length := by omega
    have hcd : 0 < cells.length := by omega
    have hce : 1 < cells.length := by omega
    have hy0 := gat_sym hs16 hb0.1 hb0.2
    have hy1 := gat_sym hs16 hb1.1 hb1.2
    have Hc2 := hid hc2; clear hc2 hk67
    obtain ⟨b1, h1⟩ : ∃ x, hasS set (gat grid (num cells 0)).toNat = x := ⟨_, rfl⟩
    obtain ⟨b2, h2⟩ : ∃ x, hasS other (gat grid (num cells 1)).toNat = x := ⟨_, rfl⟩
    obtain ⟨b3, h3⟩ : ∃ x, hasS set (gat grid (num cells 1)).toNat = x := ⟨_, rfl⟩
    obtain ⟨b4, h4⟩ : ∃ x, hasS other (gat grid (num cells 0)).toNat = x := ⟨_, rfl⟩
    have i1 := fun W => in20_x W set _ hy0.1 (by omega) b1 h1
    have i2 := fun W => in20_x W other _ hy1.1 (by omega) b2 h2
    have i3 := fun W => in20_x W set _ hy1.1 (by omega) b3 h3
    have i4 := fun W => in20_x W other _ hy0.1 (by omega) b4 h4
    have I1 := hid i1; have I2 := hid i2; have I3 := hid i3; have I4 := hid i4; clear i1 i2 i3 i4 h1 h2 h3 h4
    go_enter Tryz.func30, Tryz.ntmps30
    go_upto_region 19 with fail
    cases b1 <;> cases b2 <;> cases b3 <;> cases b4
    all_goals go_wp2_with (first
      | (go_at_call 63; (with_reducible refine (I1.out _).mono ?_); rintro e9 w1 ⟨rfl, rfl⟩)
      | (go_at_call 63; (with_reducible refine (I2.out _).mono ?_); rintro e9 w1 ⟨rfl, rfl⟩)
      | (go_at_call 63; (with_reducible refine (I3.out _).mono ?_); rintro e9 w1 ⟨rfl, rfl⟩)
      | (go_at_call 63; (with_reducible refine (I4.out _).mono ?_); rintro e9 w1 ⟨rfl, rfl⟩))
    all_goals go_ret
    all_goals exact ⟨_, rfl, fun _ => goodC_other (by show (7 : Int) ≠ 1; decide) (by show (7 : Int) ≠ 2; decide) (by show (7 : Int) ≠ 4; decide) (by show (7 : Int) ≠ 6; decide), x0⟩
  · have hd := fun W hW => marked20_ok W G A gc a grid cells set (hG.to (x0.tr hW)) (hA.to (x0.tr hW)) hs16 hidx
    have Hd := hid hd; clear hd
    have RN := hN0.to x0
    go_enter Tryz.func30, Tryz.ntmps30
    go_upto_region 21 with fail
    clear f0 f1 f2 f3 f4 g0 g1 g2 g3 g4 g5 g6 g7 g8
    refine wp_region_sf (fun | 7 => some (SF.bools grid.length) | 8 => some SF.someBool | _ => none) (by kernel_rfl) (by kernel_rfl) ?_
    repeat (first | (refine wpE_skipK ?_ ?_; (focus ((first | refine wanted_notF rfl rfl ?_ | refine wanted_notT rfl rfl ?_); (focus (simp only [List.getElem?_toArray, List.getElem?_cons_succ, List.getElem?_cons_zero]; done)))); intro K hK; go_simp; apply hK; clear hK K; (have hq9 : True := trivial); clear hq9) | (refine wpE_detN rfl rfl (fun K hK => ?_); apply Exists.intro; apply And.intro; (focus (rintro W ⟨hx, -⟩; obtain ⟨⟨-, -, -, q3, -⟩, q0, q1, q2, -, -, -, q6, -, -⟩ := HF.out W hx; go_simp; all_goals rfl)); go_simp; apply hK; clear hK K; (have hq9 : True := trivial); clear hq9) | (refine wpE_detK rfl ?_ ?_; (focus (refine wanted_so rfl rfl ?_; (focus (simp only [List.getElem?_toArray, List.getElem?_cons_succ, List.getElem?_cons_zero]; done)))); intro K hK; apply Exists.intro; apply And.intro; (focus (rintro W ⟨hx, -⟩; obtain ⟨⟨-, -, -, q3, -⟩, q0, q1, q2, -, -, -, q6, -, -⟩ := HF.out W hx; go_simp; all_goals rfl)); go_simp; apply hK; clear hK K; (have hq9 : True := trivial); clear hq9))
    (first | refine wpE_newN _ rfl rfl ?_ ?_ | (refine wpE_newK _ rfl ?_ ?_ ?_; (focus (refine wanted_so rfl rfl ?_; (focus (simp only [List.getElem?_toArray, List.getElem?_cons_succ, List.getElem?_cons_zero]; done))))))
    · rintro W ⟨hW, -⟩
      go_simp
      refine ⟨Ext.rfl' _, (Hd.out W hW).mono fun e W' hr => ?_⟩
      obtain ⟨l, g, h1, -, rfl, h2, -, h3⟩ := hr
      exact ⟨_, rfl, h3, l, g, h1, rfl, h2⟩
    rintro _ ⟨_, l, g, -, rfl, -⟩ K hK
    go_simp; apply hK; clear hK K; (have hq9 : True := trivial); clear hq9
    repeat (first | (refine wpE_skipK ?_ ?_; (focus ((first | refine wanted_notF rfl rfl ?_ | refine wanted_notT rfl rfl ?_); (focus (simp only [List.getElem?_toArray, List.getElem?_cons_succ, List.getElem?_cons_zero]; done)))); intro K hK; go_simp; apply hK; clear hK K; (have hq9 : True := trivial); clear hq9) | (refine wpE_detN rfl rfl (fun K hK => ?_); apply Exists.intro; apply And.intro; (focus (rintro W ⟨hx, -⟩; obtain ⟨⟨-, -, -, q3, -⟩, q0, q1, q2, -, -, -, q6, -, -⟩ := HF.out W hx; go_simp; all_goals rfl)); go_simp; apply hK; clear hK K; (have hq9 : True := trivial); clear hq9) | (refine wpE_detK rfl ?_ ?_; (focus (refine wanted_so rfl rfl ?_; (focus (simp only [List.getElem?_toArray, List.getElem?_cons_succ, List.getElem?_cons_zero]; done)))); intro K hK; apply Exists.intro; apply And.intro; (focus (rintro W ⟨hx, -⟩; obtain ⟨⟨-, -, -, q3, -⟩, q0, q1, q2, -, -, -, q6, -, -⟩ := HF.out W hx; go_simp; all_goals rfl)); go_simp; apply hK; clear hK K; (have hq9 : True := trivial); clear hq9))
    (first | refine wpE_newN _ rfl rfl ?_ ?_ | (refine wpE_newK _ rfl ?_ ?_ ?_; (focus (refine wanted_so rfl rfl ?_; (focus (simp only [List.getElem?_toArray, List.getElem?_cons_succ, List.getElem?_cons_zero]; done))))))
    · rintro W ⟨hW, hGx⟩
      obtain ⟨l', g', h1, e1, h2⟩ := (hGx ⟨7, .data⟩ (by simp) rfl).2 rfl
      cases e1
      clear hGx
      go_simp
      refine ⟨Ext.rfl' _, (conn20_ok W pb pbc q.neighbors (RN.to hW) hgok g l' h2 grid.length h1 Hgl.out).mono fun e W' hr => ?_⟩
      obtain ⟨bo, rfl, h3⟩ := hr
      exact ⟨_, rfl, h3, bo, rfl⟩
    rintro _ ⟨_, bo, rfl⟩ K hK
    go_simp; apply hK; clear hK K; (have hq9 : True := trivial); clear hq9
    repeat (first | (refine wpE_skipK ?_ ?_; (focus ((first | refine wanted_notF rfl rfl ?_ | refine wanted_notT rfl rfl ?_); (focus (simp only [List.getElem?_toArray, List.getElem?_cons_succ, List.getElem?_cons_zero]; done)))); intro K hK; go_simp; apply hK; clear hK K; (have hq9 : True := trivial); clear hq9) | (refine wpE_detN rfl rfl (fun K hK => ?_); apply Exists.intro; apply And.intro; (focus (rintro W ⟨hx, -⟩; obtain ⟨⟨-, -, -, q3, -⟩, q0, q1, q2, -, -, -, q6, -, -⟩ := HF.out W hx; go_simp; all_goals rfl)); go_simp; apply hK; clear hK K; (have hq9 : True := trivial); clear hq9) | (refine wpE_detK rfl ?_ ?_; (focus (refine wanted_so rfl rfl ?_; (focus (simp only [List.getElem?_toArray, List.getElem?_cons_succ, List.getElem?_cons_zero]; done)))); intro K hK; apply Exists.intro; apply And.intro; (focus (rintro W ⟨hx, -⟩; obtain ⟨⟨-, -, -, q3, -⟩, q0, q1, q2, -, -, -, q6, -, -⟩ := HF.out W hx; go_simp; all_goals rfl)); go_simp; apply hK; clear hK K; (have hq9 : True := trivial); clear hq9))
    apply wpE_nil
    rintro W ⟨hW, hGx⟩
    clear hGx
    go_wp2_with fail
    go_ret
    exact ⟨_, rfl, fun _ => goodC_other (by show (8 : Int) ≠ 1; decide) (by show (8 : Int) ≠ 2; decide) (by show (8 : Int) ≠ 4; decide) (by show (8 : Int) ≠ 6; decide), x0.tr hW⟩
  · have hd := fun W hW => marked20_ok W G A gc a grid cells set (hG.to (x0.tr hW)) (hA.to (x0.tr hW)) hs16 hidx
    have Hd := hid hd; clear hd
    have RN := hN0.to x0
    go_enter Tryz.func30, Tryz.ntmps30
    go_upto_region 22 with fail
    clear f0 f1 f2 f3 f4 g0 g1 g2 g3 g4 g5 g6 g7 g8
    refine wp_region_sf (fun | 7 => some (SF.bools grid.length) | 8 => some SF.someBool | _ => none) (by kernel_rfl) (by kernel_rfl) ?_
    repeat (first | (refine wpE_skipK ?_ ?_; (focus ((first | refine wanted_notF rfl rfl ?_ | refine wanted_notT rfl rfl ?_); (focus (simp only [List.getElem?_toArray, List.getElem?_cons_succ, List.getElem?_cons_zero]; done)))); intro K hK; go_simp; apply hK; clear hK K; (have hq9 : True := trivial); clear hq9) | (refine wpE_detN rfl rfl (fun K hK => ?_); apply Exists.intro; apply And.intro; (focus (rintro W ⟨hx, -⟩; obtain ⟨⟨-, -, -, q3, -⟩, q0, q1, q2, -, -, -, q6, -, -⟩ := HF.out W hx; go_simp; all_goals rfl)); go_simp; apply hK; clear hK K; (have hq9 : True := trivial); clear hq9) | (refine wpE_detK rfl ?_ ?_; (focus (refine wanted_so rfl rfl ?_; (focus (simp only [List.getElem?_toArray, List.getElem?_cons_succ, List.getElem?_cons_zero]; done)))); intro K hK; apply Exists.intro; apply And.intro; (focus (rintro W ⟨hx, -⟩; obtain ⟨⟨-, -, -, q3, -⟩, q0, q1, q2, -, -, -, q6, -, -⟩ := HF.out W hx; go_simp; all_goals rfl)); go_simp; apply hK; clear hK K; (have hq9 : True := trivial); clear hq9))
    (first | refine wpE_newN _ rfl rfl ?_ ?_ | (refine wpE_newK _ rfl ?_ ?_ ?_; (focus (refine wanted_so rfl rfl ?_; (focus (simp only [List.getElem?_toArray, List.getElem?_cons_succ, List.getElem?_cons_zero]; done))))))
    · rintro W ⟨hW, -⟩
      go_simp
      refine ⟨Ext.rfl' _, (Hd.out W hW).mono fun e W' hr => ?_⟩
      obtain ⟨l, g, h1, -, rfl, h2, -, h3⟩ := hr
      exact ⟨_, rfl, h3, l, g, h1, rfl, h2⟩
    rintro _ ⟨_, l, g, -, rfl, -⟩ K hK
    go_simp; apply hK; clear hK K; (have hq9 : True := trivial); clear hq9
    repeat (first | (refine wpE_skipK ?_ ?_; (focus ((first | refine wanted_notF rfl rfl ?_ | refine wanted_notT rfl rfl ?_); (focus (simp only [List.getElem?_toArray, List.getElem?_cons_succ, List.getElem?_cons_zero]; done)))); intro K hK; go_simp; apply hK; clear hK K; (have hq9 : True := trivial); clear hq9) | (refine wpE_detN rfl rfl (fun K hK => ?_); apply Exists.intro; apply And.intro; (focus (rintro W ⟨hx, -⟩; obtain ⟨⟨-, -, -, q3, -⟩, q0, q1, q2, -, -, -, q6, -, -⟩ := HF.out W hx; go_simp; all_goals rfl)); go_simp; apply hK; clear hK K; (have hq9 : True := trivial); clear hq9) | (refine wpE_detK rfl ?_ ?_; (focus (refine wanted_so rfl rfl ?_; (focus (simp only [List.getElem?_toArray, List.getElem?_cons_succ, List.getElem?_cons_zero]; done)))); intro K hK; apply Exists.intro; apply And.intro; (focus (rintro W ⟨hx, -⟩; obtain ⟨⟨-, -, -, q3, -⟩, q0, q1, q2, -, -, -, q6, -, -⟩ := HF.out W hx; go_simp; all_goals rfl)); go_simp; apply hK; clear hK K; (have hq9 : True := trivial); clear hq9))
    (first | refine wpE_newN _ rfl rfl ?_ ?_ | (refine wpE_newK _ rfl ?_ ?_ ?_; (focus (refine wanted_so rfl rfl ?_; (focus (simp only [List.getElem?_toArray, List.getElem?_cons_succ, List.getElem?_cons_zero]; done))))))
    · rintro W ⟨hW, hGx⟩
      obtain ⟨l', g', h1, e1, h2⟩ := (hGx ⟨7, .data⟩ (by simp) rfl).2 rfl
      cases e1
      clear hGx
      go_simp
      refine ⟨Ext.rfl' _, (loop20_ok W pb pbc q.neighbors (RN.to hW) hgok g l' h2 grid.length h1 Hgl.out).mono fun e W' hr => ?_⟩
      obtain ⟨bo, rfl, h3⟩ := hr
      exact ⟨_, rfl, h3, bo, rfl⟩
    rintro _ ⟨_, bo, rfl⟩ K hK
    go_simp; apply hK; clear hK K; (have hq9 : True := trivial); clear hq9
    repeat (first | (refine wpE_skipK ?_ ?_; (focus ((first | refine wanted_notF rfl rfl ?_ | refine wanted_notT rfl rfl ?_); (focus (simp only [List.getElem?_toArray, List.getElem?_cons_succ, List.getElem?_cons_zero]; done)))); intro K hK; go_simp; apply hK; clear hK K; (have hq9 : True := trivial); clear hq9) | (refine wpE_detN rfl rfl (fun K hK => ?_); apply Exists.intro; apply And.intro; (focus (rintro W ⟨hx, -⟩; obtain ⟨⟨-, -, -, q3, -⟩, q0, q1, q2, -, -, -, q6, -, -⟩ := HF.out W hx; go_simp; all_goals rfl)); go_simp; apply hK; clear hK K; (have hq9 : True := trivial); clear hq9) | (refine wpE_detK rfl ?_ ?_; (focus (refine wanted_so rfl rfl ?_; (focus (simp only [List.getElem?_toArray, List.getElem?_cons_succ, List.getElem?_cons_zero]; done)))); intro K hK; apply Exists.intro; apply And.intro; (focus (rintro W ⟨hx, -⟩; obtain ⟨⟨-, -, -, q3, -⟩, q0, q1, q2, -, -, -, q6, -, -⟩ := HF.out W hx; go_simp; all_goals rfl)); go_simp; apply hK; clear hK K; (have hq9 : True := trivial); clear hq9))
    apply wpE_nil
    rintro W ⟨hW, hGx⟩
    clear hGx
    go_wp2_with fail
    go_ret
    exact ⟨_, rfl, fun _ => goodC_other (by show (9 : Int) ≠ 1; decide) (by show (9 : Int) ≠ 2; decide) (by show (9 : Int) ≠ 4; decide) (by show (9 : Int) ≠ 6; decide), x0.tr hW⟩
end Go.Proofs.YtimkijmjbnmcbaaGreat
