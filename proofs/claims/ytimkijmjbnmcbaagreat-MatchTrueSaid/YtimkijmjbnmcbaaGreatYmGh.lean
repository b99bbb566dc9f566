/- Contracts: Solves (the reference); the law's count. -/
import Derived.Test.YtimkijmjbnmcbaaGreatYmGg
namespace Go.Proofs.YtimkijmjbnmcbaaGreat
open Go Go.RowKit
def SolE (q : Problem) (grid : List Int) : Int := if decide ((grid.length : Int) = q.cells) && withinN grid q.symbols then 0 else 200
theorem fin_of {q : Problem} {grid : List Int} (hv : validB q = true) (h : (decide ((grid.length : Int) = q.cells) && withinN grid q.symbols) = true) : Fin q grid := by
  rw [Bool.and_eq_true, decide_eq_true_eq] at h
  refine ⟨hv, h.1, fun x hx => ?_⟩
  have h1 := List.all_eq_true.1 h.2 x hx
  simp only [Bool.and_eq_true, decide_eq_true_eq] at h1
  omega
set_option maxHeartbeats 1000000 in
theorem valid20_ok (w : World) (q : Problem) (p : PPtr) (G : Option Addr) (gc : Nat) (grid : List Int) (hq : RProb w q p) (hG : RInts w G grid) (hv : validB q = true) (b : Bool) (hb : (decide ((grid.length : Int) = q.cells) && withinN grid q.symbols) = b) :
    Calls Tryz.prog 29 #[probV q p, .slice G grid.length gc] w fun e w' => e = .returned (.int .i64 (if b then 0 else 200)) ∧ Ext w w' := by
  have he : validE q = 0 := by simp [validE, hv]
  have x0 := (Ext.rfl' w).al (probO q p)
  have F : ∀ V, Ext (w.alloc (probO q p)) V → ProbBox V w.heap.size q p := fun V hV => probBox hV rfl
  have HF := hid F; clear F
  obtain ⟨f0, f1, f2, f3, f4⟩ := HF.out _ (Ext.rfl' _)
  have h1 := valid19_ok _ q p (hq.to x0)
  rw [he] at h1
  have h2 := fun W hW => fin20_ok W G gc grid (hG.to (w' := W) (x0.tr hW)) q.cells q.symbols
  rw [hb] at h2
  have H1 := hid h1; have H2 := hid h2; clear h1 h2 he hb
  obtain ⟨pa, pac, pb, pbc, pc, pcc⟩ := p
  dsimp only at f2 f3 f4
  go_enter Tryz.func29, Tryz.ntmps29
  go_upto_region 4 with (go_at_call 20; refine H1.out.mono ?_; rintro e w1 ⟨rfl, hb1⟩)
  clear f0 f1 f2 f3 f4
  obtain ⟨f0, f1, f2, f3, f4⟩ := HF.out _ hb1
  cases b
  all_goals go_wp2_with (go_at_call 55; refine (H2.out _ hb1).mono ?_; rintro e w2 ⟨rfl, rfl⟩)
  all_goals go_ret
  all_goals exact ⟨rfl, x0.tr hb1⟩
/-- What Solves tells. -/
def RetSol (w : World) (q : Problem) (grid : List Int) (e : Ending) (w' : World) : Prop := ∃ (b : Bool) (er : Int), e = .returned (.tuple #[.bool b, .int .i64 er]) ∧ (b = true → Fin q grid ∧ ∀ c ∈ q.cons, GoodC q grid c) ∧ Ext w w'
def SF.met (q : Problem) (c : Cons) (grid : List Int) : SF := ⟨fun _ v => ∃ b : Bool, v = .bool b ∧ (b = true → GoodC q grid c), fun _ _ _ _ h => h⟩
set_option maxRecDepth 100000 in
set_option maxHeartbeats 4000000 in
theorem solves20_ok (w : World) (q : Problem) (p : PPtr) (G : Option Addr) (gc : Nat) (grid : List Int) (hq : RProb w q p) (hG : RInts w G grid) (hv : validB q = true) : Calls Tryz.prog 11 #[probV q p, .slice G grid.length gc] w (RetSol w q grid) := by
  obtain ⟨pa, pac, pb, pbc, pc, pcc⟩ := p
  have x0 := (Ext.rfl' w).al (probO q ⟨pa, pac, pb, pbc, pc, pcc⟩)
  have F : ∀ V, Ext (w.alloc (probO q ⟨pa, pac, pb, pbc, pc, pcc⟩)) V → ProbBox V w.heap.size q ⟨pa, pac, pb, pbc, pc, pcc⟩ := fun V hV => probBox hV rfl
  have HF := hid F; clear F
  obtain ⟨f0, f1, f2, f3, f4⟩ := HF.out _ (Ext.rfl' _)
  dsimp only at f2 f3 f4
  obtain ⟨b, hb⟩ : ∃ b, (decide ((grid.length : Int) = q.cells) && withinN grid q.symbols) = b := ⟨_, rfl⟩
  have h1 := valid20_ok _ q ⟨pa, pac, pb, pbc, pc, pcc⟩ G gc grid (hq.to x0) (hG.to x0) hv b hb
  have H1 := hid h1; clear h1
  have hcl := (valid_cons hv).1
  cases b
  · clear hb
    go_enter Tryz.func11, Tryz.ntmps11
    go_wp2_with (go_at_call 29; refine H1.out.mono ?_; rintro e w1 ⟨rfl, hb1⟩)
    go_ret2
    exact ⟨false, 200, rfl, fun e => (by cases e), x0.tr hb1⟩
  have Hf := hid (fin_of hv hb)
  clear hb
  go_enter Tryz.func11, Tryz.ntmps11
  go_wp2_with (go_at_call 29; refine H1.out.mono ?_; rintro e w1 ⟨rfl, hb1⟩)
  clear f0 f1 f2 f3 f4 H1
  go_loopw [7] (fun i wr => ∃ k : Nat, k ≤ q.cons.length ∧ i = .int .i64 k ∧ Hid (∀ c ∈ q.cons.take k, GoodC q grid c) ∧ Ext w1 wr) (fun i _ => q.cons.length - (intOf i).toNat)
  case atStart => exact ⟨0, Nat.zero_le _, rfl, hid (by simp), Ext.rfl' _⟩
  case round =>
    obtain ⟨k, hk, rfl, hno, hx⟩ := hrel
    have y1 := hb1.tr hx
    obtain ⟨f0, f1, f2, f3, f4⟩ := HF.out _ y1
    dsimp only at f2 f3 f4
    by_cases hlt : k < q.cons.length
    · obtain ⟨ad, B1, b1, D1, d1, hA1, hab, r1, r2, r3, g0, g1, g2, g3, g4, g5, g6, g7, g8⟩ := (hq.cons.to (x0.tr y1)).consLoad k hlt
      dsimp only at hA1
      subst hA1
      have hm := fun W (hW : Ext wr W) => met20_ok W q ⟨pa, pac, pb, pbc, some ad, pcc⟩ q.cons[k] B1 b1 D1 d1 G gc grid (hq.to (x0.tr (y1.tr hW))) (hG.to (x0.tr (y1.tr hW))) (r1.to hW) (r2.to hW) Hf.out (List.getElem_mem hlt)
      have Hm := hid hm; clear hm r3
      have xh := x0.tr y1
      have FB : ∀ V, Ext wr V → (V.cell? ⟨w.heap.size, 0, none⟩ = some (.int .i64 q.cells) ∧ V.cell? ⟨w.heap.size, 1, none⟩ = some (.int .i64 q.symbols) ∧ V.cell? ⟨w.heap.size, 2, none⟩ = some (.slice pa q.values.length pac) ∧ V.cell? ⟨w.heap.size, 3, none⟩ = some (.slice pb q.neighbors.length pbc) ∧ V.cell? ⟨w.heap.size, 4, none⟩ = some (.slice (some ad) q.cons.length pcc)) ∧ ConsAt V (ad.add (k * 9)) q.cons[k] B1 b1 D1 d1 := fun V hV =>
        ⟨HF.out V (y1.tr hV), ConsAt.keep hV (by rw [block_of_add]; exact hab) ⟨g0, g1, g2, g3, g4, g5, g6, g7, g8⟩⟩
      have HB := hid FB; clear FB g0 g1 g2 g3 g4 g5 g6 g7 g8
      go_upto_region 7 with fail
      clear f0 f1 f2 f3 f4
      refine wp_region_sf (fun | 7 => some (SF.met q q.cons[k] grid) | _ => none) (by kernel_rfl) (by kernel_rfl) ?_
      repeat (first | (refine wpE_skipK ?_ ?_; (focus ((first | refine wanted_notF rfl rfl ?_ | refine wanted_notT rfl rfl ?_); (focus (simp only [List.getElem?_toArray, List.getElem?_cons_succ, List.getElem?_cons_zero]; done)))); intro K hK; go_simp; apply hK; clear hK K; (have hq9 : True := trivial); clear hq9) | (refine wpE_detN rfl rfl (fun K hK => ?_); apply Exists.intro; apply And.intro; (focus (rintro W ⟨hx, -⟩; obtain ⟨⟨f0, f1, f2, f3, f4⟩, g0, g1, g2, g3, g4, g5, g6, g7, g8⟩ := HB.out W hx; go_simp; all_goals rfl)); go_simp; apply hK; clear hK K; (have hq9 : True := trivial); clear hq9) | (refine wpE_detK rfl ?_ ?_; (focus (refine wanted_so rfl rfl ?_; (focus (simp only [List.getElem?_toArray, List.getElem?_cons_succ, List.getElem?_cons_zero]; done)))); intro K hK; apply Exists.intro; apply And.intro; (focus (rintro W ⟨hx, -⟩; obtain ⟨⟨f0, f1, f2, f3, f4⟩, g0, g1, g2, g3, g4, g5, g6, g7, g8⟩ := HB.out W hx; go_simp; all_goals rfl)); go_simp; apply hK; clear hK K; (have hq9 : True := trivial); clear hq9))
      (first | refine wpE_newN _ rfl rfl ?_ ?_ | (refine wpE_newK _ rfl ?_ ?_ ?_; (focus (refine wanted_so rfl rfl ?_; (focus (simp only [List.getElem?_toArray, List.getElem?_cons_succ, List.getElem?_cons_zero]; done))))))
      · rintro W ⟨hW, -⟩
        go_simp
        refine ⟨Ext.rfl' _, (Hm.out W hW).mono fun e W' hr => ?_⟩
        obtain ⟨bo, rfl, h1, h2⟩ := hr
        exact ⟨_, rfl, h2, bo, rfl, h1⟩
      rintro _ ⟨_, bo, rfl, hgo⟩ K hK
      go_simp; apply hK; clear hK K; (have hq9 : True := trivial); clear hq9
      repeat (first | (refine wpE_skipK ?_ ?_; (focus ((first | refine wanted_notF rfl rfl ?_ | refine wanted_notT rfl rfl ?_); (focus (simp only [List.getElem?_toArray, List.getElem?_cons_succ, List.getElem?_cons_zero]; done)))); intro K hK; go_simp; apply hK; clear hK K; (have hq9 : True := trivial); clear hq9) | (refine wpE_detN rfl rfl (fun K hK => ?_); apply Exists.intro; apply And.intro; (focus (rintro W ⟨hx, -⟩; obtain ⟨⟨f0, f1, f2, f3, f4⟩, g0, g1, g2, g3, g4, g5, g6, g7, g8⟩ := HB.out W hx; go_simp; all_goals rfl)); go_simp; apply hK; clear hK K; (have hq9 : True := trivial); clear hq9) | (refine wpE_detK rfl ?_ ?_; (focus (refine wanted_so rfl rfl ?_; (focus (simp only [List.getElem?_toArray, List.getElem?_cons_succ, List.getElem?_cons_zero]; done)))); intro K hK; apply Exists.intro; apply And.intro; (focus (rintro W ⟨hx, -⟩; obtain ⟨⟨f0, f1, f2, f3, f4⟩, g0, g1, g2, g3, g4, g5, g6, g7, g8⟩ := HB.out W hx; go_simp; all_goals rfl)); go_simp; apply hK; clear hK K; (have hq9 : True := trivial); clear hq9))
      apply wpE_nil
      rintro W ⟨hW, hGx⟩
      clear hGx
      have hno2 : bo = true → ∀ c ∈ q.cons.take (k + 1), GoodC q grid c := fun e c hc => by
        rw [List.take_succ_eq_append_getElem hlt] at hc
        rcases List.mem_append.1 hc with hc | hc
        · exact hno.out c hc
        · rw [List.mem_singleton] at hc; subst hc; exact hgo e
      have Hno2 := hid hno2; clear hno2 hgo hno
      cases bo
      · go_wp2_with fail
        go_ret2
        exact ⟨false, 0, rfl, fun e => (by cases e), x0.tr (y1.tr hW)⟩
      · go_wp2_with fail
        go_roundw
        case rel => exact ⟨k + 1, by omega, by go_num, hid (Hno2.out rfl), hx.tr hW⟩
        case measure => simp [intOf]; omega
    · have hall : q.cons.take k = q.cons := List.take_of_length_le (by omega)
      rw [hall] at hno
      go_wp2_with fail
      go_ret2
      exact ⟨true, 0, rfl, fun _ => ⟨Hf.out, hno.out⟩, x0.tr y1⟩
theorem cntL_take {grid cells symbols : List Int} {k : Nat} (h : k < cells.length) : cntL grid (cells.take (k + 1)) symbols = cntL grid (cells.take k) symbols + if memB symbols (gat grid (num cells k)) then 1 else 0 := by
  unfold cntL
  rw [List.take_succ_eq_append_getElem h, List.filter_append, List.length_append, num_eq h]
  cases e : memB symbols (gat grid cells[k]) <;> simp [e]
theorem cntL_le (grid cells symbols : List Int) : cntL grid cells symbols ≤ cells.length := by unfold cntL; exact List.length_filter_le _ _
set_option maxRecDepth 100000 in
set_option maxHeartbeats 2000000 in
theorem count33_ok (w : World) (A B S : Option Addr) (c d s : Nat) (grid cells symbols : List Int) (h : RInts w A grid) (g : RInts w B cells) (hs : RInts w S symbols) (hi : Idx cells grid.length) : Calls Tryz.prog 13 #[.slice A grid.length c, .slice B cells.length d, .slice S symbols.length s] w fun e w' => e = .returned (.int .i64 (cntL grid cells symbols)) ∧ Ext w w' := by
  have hl := h.len
  have gl := g.len
  have Hi := hid hi
  go_enter Tryz.func13, Tryz.ntmps13
  go_wp2_with fail
  go_loopw [7, 9, 12] (fun n _ i wr => ∃ k : Nat, k ≤ cells.length ∧ i = .int .i64 k ∧ n = .int .i64 (cntL grid (cells.take k) symbols : Nat) ∧ Ext w wr) (fun _ _ i _ => cells.length - (intOf i).toNat)
  case atStart => exact ⟨0, Nat.zero_le _, rfl, by simp [cntL], Ext.rfl' _⟩
  case round =>
    obtain ⟨k, hk, rfl, rfl, hx⟩ := hrel
    by_cases hlt : k < cells.length
    · obtain ⟨ad, bd, e1, e2, hb1, F1⟩ := gridAt (h.to hx) (g.to hx) Hi.out hlt
      subst e1 e2
      obtain ⟨f0, f1⟩ := F1 wr (Ext.rfl' _)
      have hst := cntL_take (grid := grid) (symbols := symbols) hlt
      have hle := cntL_le grid (cells.take k) symbols
      rw [List.length_take] at hle
      have hin := in13_n wr S s symbols.length symbols rfl (hs.to hx) (gat grid (num cells k))
      have Hin := hid hin; clear hin
      cases e : memB symbols (gat grid (num cells k))
      · rw [e] at hst Hin
        have Hst := hid hst; clear hst
        go_wp2_with (go_at_call 28; refine Hin.out.mono ?_; rintro e9 w1 ⟨rfl, hb9⟩)
        go_roundw
        case rel => exact ⟨k + 1, by omega, by go_num, by rw [Hst.out]; simp, hx.tr hb9⟩
        case measure => simp [intOf]; omega
      · rw [e] at hst Hin
        have Hst := hid hst; clear hst
        go_wp2_with (go_at_call 28; refine Hin.out.mono ?_; rintro e9 w1 ⟨rfl, hb9⟩)
        go_roundw
        case rel => exact ⟨k + 1, by omega, by go_num, by rw [Hst.out]; simp, hx.tr hb9⟩
        case measure => simp [intOf]; omega
    · have hall : cells.take k = cells := List.take_of_length_le (by omega)
      rw [hall]
      go_wp2_with fail
      go_ret
      exact ⟨rfl, hx⟩
end Go.Proofs.YtimkijmjbnmcbaaGreat
