/- Contract: whether a condition is met (the program's text). Contract: whether a condition is met (the program's text), joined with the plain law. Contracts: the greatest of some integers; whether a condition of a list satisfies a function. Contract: whether a condition is met (the reference). Contract: whether a condition is met (the reference), home. Contract: whether a condition is met (the reference): apart. Contract: whether a condition is met (the reference): rise. Contract: whether a condition is met (the reference): quota. Contract: whether a condition is met (the reference), joined. Contract: Cond of the reference. Contract: Cond of the program. -/
import Derived.Laws.EntriesVeiled
import Derived.Test.YtimkijmjbnmcbaaGreatYm15
import Derived.Test.YtimkijmjbnmcbaaGreatYm10
import Derived.Test.YtimkijmjbnmcbaaGreatYm12
import Derived.Test.YtimkijmjbnmcbaaGreatYm11
import Derived.Test.YtimkijmjbnmcbaaGreatYm13
import Derived.Test.YtimkijmjbnmcbaaGreatYm14
namespace Go.Proofs.YtimkijmjbnmcbaaGreat
open Go Go.RowKit
/-- A slice that holds these integers and has room for them. -/
def SF.ic (l : List Int) : SF := ⟨fun W v => ∃ A c, v = .slice A l.length c ∧ RInts W A l ∧ l.length ≤ c, fun _ _ _ hb ⟨A, c, e, h, hc⟩ => ⟨A, c, e, h.to hb, hc⟩⟩
/-- The methods, by their kinds. -/
def kindFs : Array Value := #[.nilFunc, .func (.func 48) #[] #[], .func (.func 49) #[] #[], .func (.func 50) #[] #[], .func (.func 51) #[] #[], .func (.func 52) #[] #[], .func (.func 53) #[] #[]]
theorem pDead_x (w : World) (A : Option Addr) (c : Nat) (l : List Int) (h : RInts w A l) (r : Bool) (hr : deadB l = r) : Calls Tryz.prog 24 #[.slice A l.length c] w fun e w' => e = .returned (.bool r) ∧ Ext w w' :=
  (pDead_ok w A c l h).mono fun _ _ ⟨he, hw⟩ => ⟨by rw [he, hr], ext_eq hw⟩
set_option maxHeartbeats 2000000 in
set_option maxRecDepth 100000 in
theorem mMet_dead (w : World) (q : Problem) (pos : List Int) (g : Nat) (m : MPtr) (h : RMat w q pos g m) (c : Cond) (A : Option Addr) (a : Nat) (B : Option Addr) (b : Nat) (C : Option Addr) (cn : Nat) (D : Option Addr) (dn : Nat) (cells symbols : List Int) (hd : deadB pos = true) :
    Calls Tryz.prog 26 #[.pointer (some ⟨g, 0, none⟩), condV c A a B b, .slice C cells.length cn, .slice D symbols.length dn] w fun e w' => e = .returned (.bool false) ∧ Ext w w' := by
  have xx : Ext w ((w.alloc (condO c A a B b)).alloc (.cells kindFs 97)) := ((Ext.rfl' w).al _).al _
  have F : ∀ V, Ext ((w.alloc (condO c A a B b)).alloc (.cells kindFs 97)) V → V.cell? ⟨g, 5, none⟩ = some (.slice m.P pos.length m.pn) := fun V hV => (h.to (xx.tr hV)).c5
  have HF := hid F; clear F
  go_enter Tryz.func26, Tryz.ntmps26
  go_wp2_with fail
  (refine wp_region_sf (fun | 4 => some (SF.val (.bool true)) | _ => none) (by kernel_rfl) (by kernel_rfl) ?_); (repeat (first | (refine wpE_skipK ?_ ?_; (focus ((first | refine wanted_notF rfl rfl ?_ | refine wanted_notT rfl rfl ?_); (focus (simp only [List.getElem?_toArray, List.getElem?_cons_succ, List.getElem?_cons_zero]; done)))); intro K hK; go_simp; apply hK; clear hK K; (have hq9 : True := trivial); clear hq9) | (refine wpE_detN rfl rfl (fun K hK => ?_); apply Exists.intro; apply And.intro; (focus (rintro W ⟨hx, -⟩; obtain f0 := HF.out W hx; go_simp; all_goals rfl)); go_simp; apply hK; clear hK K; (have hq9 : True := trivial); clear hq9) | (refine wpE_detK rfl ?_ ?_; (focus (refine wanted_so rfl rfl ?_; (focus (simp only [List.getElem?_toArray, List.getElem?_cons_succ, List.getElem?_cons_zero]; done)))); intro K hK; apply Exists.intro; apply And.intro; (focus (rintro W ⟨hx, -⟩; obtain f0 := HF.out W hx; go_simp; all_goals rfl)); go_simp; apply hK; clear hK K; (have hq9 : True := trivial); clear hq9))); (first | refine wpE_newN _ rfl rfl ?_ ?_ | (refine wpE_newK _ rfl ?_ ?_ ?_; (focus (refine wanted_so rfl rfl ?_; (focus (simp only [List.getElem?_toArray, List.getElem?_cons_succ, List.getElem?_cons_zero]; done)))))); (focus (rintro W ⟨hW, -⟩; go_simp; exact ⟨Ext.rfl' _, (pDead_x W m.P m.pn pos (h.pos.to (xx.tr hW)) true hd).mono fun e W' ⟨he, hb⟩ => ⟨_, he, hb, rfl⟩⟩)); (rintro _ ⟨_, rfl⟩ K hK); (go_simp; apply hK; clear hK K; (have hq9 : True := trivial); clear hq9); (repeat (first | (refine wpE_skipK ?_ ?_; (focus ((first | refine wanted_notF rfl rfl ?_ | refine wanted_notT rfl rfl ?_); (focus (simp only [List.getElem?_toArray, List.getElem?_cons_succ, List.getElem?_cons_zero]; done)))); intro K hK; go_simp; apply hK; clear hK K; (have hq9 : True := trivial); clear hq9) | (refine wpE_detN rfl rfl (fun K hK => ?_); apply Exists.intro; apply And.intro; (focus (rintro W ⟨hx, -⟩; obtain f0 := HF.out W hx; go_simp; all_goals rfl)); go_simp; apply hK; clear hK K; (have hq9 : True := trivial); clear hq9) | (refine wpE_detK rfl ?_ ?_; (focus (refine wanted_so rfl rfl ?_; (focus (simp only [List.getElem?_toArray, List.getElem?_cons_succ, List.getElem?_cons_zero]; done)))); intro K hK; apply Exists.intro; apply And.intro; (focus (rintro W ⟨hx, -⟩; obtain f0 := HF.out W hx; go_simp; all_goals rfl)); go_simp; apply hK; clear hK K; (have hq9 : True := trivial); clear hq9))); (apply wpE_nil); (rintro W ⟨hW, hG⟩); clear hG
  go_wp2_with fail
  go_ret
  exact ⟨rfl, xx.tr hW⟩
set_option maxHeartbeats 4000000 in
set_option maxRecDepth 100000 in
theorem mMet_live (w : World) (q : Problem) (pos : List Int) (g : Nat) (m : MPtr) (h : RMat w q pos g m) (c : Cond) (A : Option Addr) (a : Nat) (B : Option Addr) (b : Nat) (C : Option Addr) (cn : Nat) (D : Option Addr) (dn : Nat) (cells symbols : List Int) (hd : deadB pos = false)
    (hA : RInts w A c.cells) (hB : RInts w B c.letters) (hC : RInts w C cells) (hD : RInts w D symbols) (hi : Idx c.cells cells.length) (hj : Idx c.letters symbols.length)
    (hk1 : 1 ≤ c.kind) (hk2 : c.kind ≤ 6) (kf : Nat) (hfn : kindFs[c.kind.toNat]? = some (.func (.func kf) #[] #[])) (hcf : ∀ xs W, (callFunc kf xs).run Tryz.prog W = .ok (.enter kf xs) W) (r : Bool) (ask : MetAsk w g kf (chosen cells c.cells) (chosen symbols c.letters) c.n r) :
    Calls Tryz.prog 26 #[.pointer (some ⟨g, 0, none⟩), condV c A a B b, .slice C cells.length cn, .slice D symbols.length dn] w fun e w' => e = .returned (.bool r) ∧ Ext w w' := by
  obtain ⟨W1, hW1⟩ : ∃ W1, (w.alloc (condO c A a B b)).alloc (.cells kindFs 97) = W1 := ⟨_, rfl⟩
  have xx : Ext w W1 := by rw [← hW1]; exact ((Ext.rfl' w).al _).al _
  have b0 : Blk W1 w.heap.size 50 #[.int .i64 c.kind, .slice A c.cells.length a, .slice B c.letters.length b, .int .i64 c.n] := by rw [← hW1]; exact (Blk.new w _ _).ext ((Ext.rfl' _).al _)
  have b1 : Blk W1 (w.heap.size + 1) 97 kindFs := by
    have := Blk.new (w.alloc (condO c A a B b)) 97 kindFs
    rw [World.size_alloc] at this
    rw [← hW1]; exact this
  have F : ∀ V, Ext W1 V → V.cell? ⟨g, 5, none⟩ = some (.slice m.P pos.length m.pn) ∧ V.cell? ⟨w.heap.size, 0, none⟩ = some (.int .i64 c.kind) ∧ V.cell? ⟨w.heap.size, 1, none⟩ = some (.slice A c.cells.length a) ∧ V.cell? ⟨w.heap.size, 2, none⟩ = some (.slice B c.letters.length b) ∧
      V.cell? ⟨w.heap.size, 3, none⟩ = some (.int .i64 c.n) ∧ V.cell? ⟨w.heap.size + 1, c.kind.toNat, none⟩ = some (.func (.func kf) #[] #[]) := fun V hV =>
    ⟨(h.to (xx.tr hV)).c5, (b0.ext hV).cell 0, (b0.ext hV).cell 1, (b0.ext hV).cell 2, (b0.ext hV).cell 3, by rw [(b1.ext hV).cell]; exact hfn⟩
  have HF := hid F; clear F
  have Hask := hid ask; clear ask b0 b1
  have hk0 : 0 ≤ c.kind := by omega
  have hk7 : c.kind < 7 := by omega
  go_enter Tryz.func26, Tryz.ntmps26
  go_wp2_with fail
  have hW1' := hW1
  unfold kindFs at hW1'
  rw [hW1']
  refine wp_region_sf (fun | 4 => some (SF.val (.bool false)) | 15 => some (SF.ic (chosen cells c.cells)) | 19 => some (SF.ic (chosen symbols c.letters)) | 22 => some (SF.val (.bool r)) | _ => none) (by kernel_rfl) (by kernel_rfl) ?_
  repeat (first | (refine wpE_skipK ?_ ?_; (focus ((first | refine wanted_notF rfl rfl ?_ | refine wanted_notT rfl rfl ?_); (focus (simp only [List.getElem?_toArray, List.getElem?_cons_succ, List.getElem?_cons_zero]; done)))); intro K hK; go_simp; apply hK; clear hK K; (have hq9 : True := trivial); clear hq9) | (refine wpE_detN rfl rfl (fun K hK => ?_); apply Exists.intro; apply And.intro; (focus (rintro W ⟨hx, -⟩; obtain ⟨f0, f1, f2, f3, f4, f5⟩ := HF.out W hx; go_simp; all_goals rfl)); go_simp; apply hK; clear hK K; (have hq9 : True := trivial); clear hq9) | (refine wpE_detK rfl ?_ ?_; (focus (refine wanted_so rfl rfl ?_; (focus (simp only [List.getElem?_toArray, List.getElem?_cons_succ, List.getElem?_cons_zero]; done)))); intro K hK; apply Exists.intro; apply And.intro; (focus (rintro W ⟨hx, -⟩; obtain ⟨f0, f1, f2, f3, f4, f5⟩ := HF.out W hx; go_simp; all_goals rfl)); go_simp; apply hK; clear hK K; (have hq9 : True := trivial); clear hq9))
  (first | refine wpE_newN _ rfl rfl ?_ ?_ | (refine wpE_newK _ rfl ?_ ?_ ?_; (focus (refine wanted_so rfl rfl ?_; (focus (simp only [List.getElem?_toArray, List.getElem?_cons_succ, List.getElem?_cons_zero]; done)))))); (focus (rintro W ⟨hW, -⟩; go_simp; exact ⟨Ext.rfl' _, (pDead_x W m.P m.pn pos (h.pos.to (xx.tr hW)) false hd).mono fun e W' ⟨he, hb⟩ => ⟨_, he, hb, rfl⟩⟩)); (rintro _ ⟨_, rfl⟩ K hK); (go_simp; apply hK; clear hK K; (have hq9 : True := trivial); clear hq9)
  repeat (first | (refine wpE_skipK ?_ ?_; (focus ((first | refine wanted_notF rfl rfl ?_ | refine wanted_notT rfl rfl ?_); (focus (simp only [List.getElem?_toArray, List.getElem?_cons_succ, List.getElem?_cons_zero]; done)))); intro K hK; go_simp; apply hK; clear hK K; (have hq9 : True := trivial); clear hq9) | (refine wpE_detN rfl rfl (fun K hK => ?_); apply Exists.intro; apply And.intro; (focus (rintro W ⟨hx, -⟩; obtain ⟨f0, f1, f2, f3, f4, f5⟩ := HF.out W hx; go_simp; all_goals rfl)); go_simp; apply hK; clear hK K; (have hq9 : True := trivial); clear hq9) | (refine wpE_detK rfl ?_ ?_; (focus (refine wanted_so rfl rfl ?_; (focus (simp only [List.getElem?_toArray, List.getElem?_cons_succ, List.getElem?_cons_zero]; done)))); intro K hK; apply Exists.intro; apply And.intro; (focus (rintro W ⟨hx, -⟩; obtain ⟨f0, f1, f2, f3, f4, f5⟩ := HF.out W hx; go_simp; all_goals rfl)); go_simp; apply hK; clear hK K; (have hq9 : True := trivial); clear hq9))
  (first | refine wpE_newN _ rfl rfl ?_ ?_ | (refine wpE_newK _ rfl ?_ ?_ ?_; (focus (refine wanted_so rfl rfl ?_; (focus (simp only [List.getElem?_toArray, List.getElem?_cons_succ, List.getElem?_cons_zero]; done))))))
  · rintro W ⟨hW, -⟩
    go_simp
    refine ⟨Ext.rfl' _, (mPick_ok W C A cn a cells c.cells (hC.to (xx.tr hW)) (hA.to (xx.tr hW)) hi).mono fun e W' hr => ?_⟩
    obtain ⟨A', c', rfl, h1, h2, h3⟩ := hr
    exact ⟨_, rfl, h3, A', c', rfl, h1, h2⟩
  rintro _ ⟨_, P1, p1, rfl, -, hp1⟩ K hK
  go_simp; apply hK; clear hK K; (have hq9 : True := trivial); clear hq9
  repeat (first | (refine wpE_skipK ?_ ?_; (focus ((first | refine wanted_notF rfl rfl ?_ | refine wanted_notT rfl rfl ?_); (focus (simp only [List.getElem?_toArray, List.getElem?_cons_succ, List.getElem?_cons_zero]; done)))); intro K hK; go_simp; apply hK; clear hK K; (have hq9 : True := trivial); clear hq9) | (refine wpE_detN rfl rfl (fun K hK => ?_); apply Exists.intro; apply And.intro; (focus (rintro W ⟨hx, -⟩; obtain ⟨f0, f1, f2, f3, f4, f5⟩ := HF.out W hx; go_simp; all_goals rfl)); go_simp; apply hK; clear hK K; (have hq9 : True := trivial); clear hq9) | (refine wpE_detK rfl ?_ ?_; (focus (refine wanted_so rfl rfl ?_; (focus (simp only [List.getElem?_toArray, List.getElem?_cons_succ, List.getElem?_cons_zero]; done)))); intro K hK; apply Exists.intro; apply And.intro; (focus (rintro W ⟨hx, -⟩; obtain ⟨f0, f1, f2, f3, f4, f5⟩ := HF.out W hx; go_simp; all_goals rfl)); go_simp; apply hK; clear hK K; (have hq9 : True := trivial); clear hq9))
  (first | refine wpE_newN _ rfl rfl ?_ ?_ | (refine wpE_newK _ rfl ?_ ?_ ?_; (focus (refine wanted_so rfl rfl ?_; (focus (simp only [List.getElem?_toArray, List.getElem?_cons_succ, List.getElem?_cons_zero]; done))))))
  · rintro W ⟨hW, -⟩
    go_simp
    refine ⟨Ext.rfl' _, (mPick_ok W D B dn b symbols c.letters (hD.to (xx.tr hW)) (hB.to (xx.tr hW)) hj).mono fun e W' hr => ?_⟩
    obtain ⟨A', c', rfl, h1, h2, h3⟩ := hr
    exact ⟨_, rfl, h3, A', c', rfl, h1, h2⟩
  rintro _ ⟨_, P2, p2, rfl, -, -⟩ K hK
  go_simp; apply hK; clear hK K; (have hq9 : True := trivial); clear hq9
  repeat (first | (refine wpE_skipK ?_ ?_; (focus ((first | refine wanted_notF rfl rfl ?_ | refine wanted_notT rfl rfl ?_); (focus (simp only [List.getElem?_toArray, List.getElem?_cons_succ, List.getElem?_cons_zero]; done)))); intro K hK; go_simp; apply hK; clear hK K; (have hq9 : True := trivial); clear hq9) | (refine wpE_detN rfl rfl (fun K hK => ?_); apply Exists.intro; apply And.intro; (focus (rintro W ⟨hx, -⟩; obtain ⟨f0, f1, f2, f3, f4, f5⟩ := HF.out W hx; go_simp; all_goals rfl)); go_simp; apply hK; clear hK K; (have hq9 : True := trivial); clear hq9) | (refine wpE_detK rfl ?_ ?_; (focus (refine wanted_so rfl rfl ?_; (focus (simp only [List.getElem?_toArray, List.getElem?_cons_succ, List.getElem?_cons_zero]; done)))); intro K hK; apply Exists.intro; apply And.intro; (focus (rintro W ⟨hx, -⟩; obtain ⟨f0, f1, f2, f3, f4, f5⟩ := HF.out W hx; go_simp; all_goals rfl)); go_simp; apply hK; clear hK K; (have hq9 : True := trivial); clear hq9))
  (first | refine wpE_newN _ rfl rfl ?_ ?_ | (refine wpE_newK _ rfl ?_ ?_ ?_; (focus (refine wanted_so rfl rfl ?_; (focus (simp only [List.getElem?_toArray, List.getElem?_cons_succ, List.getElem?_cons_zero]; done))))))
  · rintro W ⟨hW, hG⟩
    obtain ⟨_, _, e1, r1, -⟩ := (hG ⟨15, .data⟩ (by simp) rfl).1.2 rfl
    cases e1
    obtain ⟨_, _, e2, r2, -⟩ := (hG ⟨19, .data⟩ (by simp) rfl).2 rfl
    cases e2
    clear hG
    go_simp
    refine ⟨Ext.rfl' _, (Hask.out W P1 p1 P2 p2 (xx.tr hW) r1 hp1 r2).mono fun e W' ⟨he, hb⟩ => ?_⟩
    exact ⟨_, he, hb, rfl⟩
  rintro _ ⟨_, rfl⟩ K hK
  go_simp; apply hK; clear hK K; (have hq9 : True := trivial); clear hq9
  repeat (first | (refine wpE_skipK ?_ ?_; (focus ((first | refine wanted_notF rfl rfl ?_ | refine wanted_notT rfl rfl ?_); (focus (simp only [List.getElem?_toArray, List.getElem?_cons_succ, List.getElem?_cons_zero]; done)))); intro K hK; go_simp; apply hK; clear hK K; (have hq9 : True := trivial); clear hq9) | (refine wpE_detN rfl rfl (fun K hK => ?_); apply Exists.intro; apply And.intro; (focus (rintro W ⟨hx, -⟩; obtain ⟨f0, f1, f2, f3, f4, f5⟩ := HF.out W hx; go_simp; all_goals rfl)); go_simp; apply hK; clear hK K; (have hq9 : True := trivial); clear hq9) | (refine wpE_detK rfl ?_ ?_; (focus (refine wanted_so rfl rfl ?_; (focus (simp only [List.getElem?_toArray, List.getElem?_cons_succ, List.getElem?_cons_zero]; done)))); intro K hK; apply Exists.intro; apply And.intro; (focus (rintro W ⟨hx, -⟩; obtain ⟨f0, f1, f2, f3, f4, f5⟩ := HF.out W hx; go_simp; all_goals rfl)); go_simp; apply hK; clear hK K; (have hq9 : True := trivial); clear hq9))
  apply wpE_nil
  rintro W ⟨hW, hG⟩
  clear hG
  go_wp2_with fail
  go_ret
  exact ⟨rfl, xx.tr hW⟩
end Go.Proofs.YtimkijmjbnmcbaaGreat
namespace Go.Proofs.YtimkijmjbnmcbaaGreat
open Go Go.RowKit
theorem fine_of {q : Problem} (hv : validB q = true) {c : Cons} (hc : c ∈ q.cons) : fineB q.cells q.symbols c = true := by
  unfold validB at hv
  rw [Bool.and_eq_true] at hv
  exact List.all_eq_true.1 hv.2 c hc
theorem fine_cells {q : Problem} (hv : validB q = true) {c : Cons} (hc : c ∈ q.cons) : (∀ i, i < c.cells.length → 0 ≤ num c.cells i ∧ num c.cells i < q.cells) ∧ ∀ i, i < c.cells.length → ∀ k, k < i → num c.cells i ≠ num c.cells k := by
  have h := fine_of hv hc
  unfold fineB at h
  rw [Bool.and_eq_true, Bool.and_eq_true, List.all_eq_true] at h
  have h1 : ∀ i, i < c.cells.length → cellOk q.cells c i = true := fun i hi => h.1.1 i (List.mem_range.2 hi)
  refine ⟨fun i hi => ?_, fun i hi k hk => ?_⟩
  · have := h1 i hi
    simp only [cellOk, Bool.and_eq_true, decide_eq_true_eq] at this
    exact ⟨this.1.1.1, this.1.1.2⟩
  · have := h1 i hi
    simp only [cellOk, Bool.and_eq_true, decide_eq_true_eq, Bool.not_eq_true'] at this
    exact (met_iff _ _).1 this.1.2 k hk
theorem cons_idx {q : Problem} (hv : validB q = true) {c : Cons} (hc : c ∈ q.cons) {n : Nat} (hn : (n : Int) = q.cells) : Idx c.cells n := by
  intro x hx
  obtain ⟨i, hi, rfl⟩ := List.getElem_of_mem hx
  have := (fine_cells hv hc).1 i hi
  rw [num_eq hi] at this
  omega
theorem cons_nodup {q : Problem} (hv : validB q = true) {c : Cons} (hc : c ∈ q.cons) : c.cells.Nodup := by
  rw [List.nodup_iff_pairwise_ne, List.pairwise_iff_getElem]
  intro i j hi hj hij
  have := (fine_cells hv hc).2 j hj i hij
  rw [num_eq hj, num_eq hi] at this
  exact fun e => this e.symm
theorem cons_lo {q : Problem} (hv : validB q = true) {c : Cons} (hc : c ∈ q.cons) : 0 ≤ c.lo ∧ c.lo ≤ 65536 := by
  have h := fine_of hv hc
  unfold fineB numsOk at h
  simp only [Bool.and_eq_true] at h
  have := (inB_iff 0 65536 [c.lo, c.hi]).1 h.2.1.1.2 0 (by simp)
  simpa [num] using this
theorem cons_len {q : Problem} (hv : validB q = true) {c : Cons} (hc : c ∈ q.cons) : c.cells.length ≤ 256 := by
  have h := fine_of hv hc
  have hb := valid_bd hv
  unfold fineB at h
  rw [Bool.and_eq_true, Bool.and_eq_true] at h
  have := cells_few q.cells c (by omega) h.1.1
  omega
theorem valid_cons {q : Problem} (hv : validB q = true) : q.cons.length ≤ 4096 ∧ (q.neighbors.length : Int) = q.cells := by
  unfold validB at hv
  simp only [Bool.and_eq_true, decide_eq_true_eq] at hv
  exact ⟨hv.1.1.1.2.2.2.2.2.2, hv.1.1.1.2.2.2.2.2.1⟩
/-- What a condition needs to be asked. -/
structure CondOK (q : Problem) (c : Cond) (cells symbols : List Int) : Prop where
  kind : kindC c.kind c.cells.length c.letters.length c.n = true
  ci : Idx c.cells cells.length
  li : Idx c.letters symbols.length
  cells : ∀ x ∈ cells, 0 ≤ x ∧ x < q.cells
  symbols : ∀ x ∈ symbols, 0 ≤ x ∧ x < q.symbols
theorem chosen_mem {l s : List Int} (hi : Idx s l.length) {x : Int} (hx : x ∈ chosen l s) : x ∈ l := by
  obtain ⟨i, hi2, rfl⟩ := List.mem_map.1 hx
  have := hi i hi2
  rw [num_eq (by omega)]
  exact List.getElem_mem _
theorem chosen_len (l s : List Int) : (chosen l s).length = s.length := by simp [chosen]
theorem num_mem {l : List Int} {k : Nat} (h : k < l.length) : num l k ∈ l := by rw [num_eq h]; exact List.getElem_mem _
theorem kindC_cases {k a b n : Int} (h : kindC k a b n = true) : (k = 1 ∧ 2 ≤ a) ∨ (k = 2 ∧ 1 ≤ a ∧ b = 1) ∨ (k = 3 ∧ a = 2) ∨ (k = 4 ∧ 2 ≤ a) ∨ (k = 5 ∧ a = 2) ∨ (k = 6 ∧ 1 ≤ a ∧ 1 ≤ b) := by
  unfold kindC at h
  repeat' split at h
  all_goals first
    | (cases h; done)
    | (rw [decide_eq_true_eq] at h; omega)
theorem metC_any {q : Problem} {pos : List Int} {k n : Int} {own letters : List Int} (h1 : k ≠ 1) (h5 : k ≠ 5) : metC q pos k n own letters = q.cons.any (metOne q pos k n own letters) := by unfold metC; rw [if_neg h1, if_neg h5]
set_option maxHeartbeats 1000000 in
theorem mMet_ok (w : World) (q : Problem) (pos : List Int) (g : Nat) (m : MPtr) (h : RMat w q pos g m) (c : Cond) (A : Option Addr) (a : Nat) (B : Option Addr) (b : Nat) (C : Option Addr) (cn : Nat) (D : Option Addr) (dn : Nat) (cells symbols : List Int)
    (hA : RInts w A c.cells) (hB : RInts w B c.letters) (hC : RInts w C cells) (hD : RInts w D symbols) (hpos : checkB q pos = true) (hc : CondOK q c cells symbols) :
    Calls Tryz.prog 26 #[.pointer (some ⟨g, 0, none⟩), condV c A a B b, .slice C cells.length cn, .slice D symbols.length dn] w fun e w' => e = .returned (.bool (metB q pos c cells symbols)) ∧ Ext w w' := by
  unfold metB
  cases hd : deadB pos
  rotate_left
  · exact mMet_dead w q pos g m h c A a B b C cn D dn cells symbols hd
  have hv : validB q = true := by unfold checkB at hpos; rw [Bool.and_eq_true] at hpos; exact hpos.1
  have hb := checkB_bd hpos
  have hn : (pos.length : Int) = q.cells := by omega
  have hi := fun x hx => cons_idx hv (c := x) hx hn
  have hlo := fun x hx => cons_lo hv (c := x) hx
  have hnb := valid_cons hv
  have hl1 := chosen_len cells c.cells
  have hl2 := chosen_len symbols c.letters
  have hz : ∀ x ∈ q.cons, ∀ y ∈ x.cells, num pos y.toNat ≠ 0 ∧ I64 (num pos y.toNat) := by
    intro x hx y hy
    have := hi x hx y hy
    exact ⟨(deadB_no pos).1 hd _ (by omega), by rw [num_eq (by omega)]; exact h.pos.i64 _ (List.getElem_mem _)⟩
  have hs16 : Idx (chosen symbols c.letters) 16 := fun x hx => by have := hc.symbols x (chosen_mem hc.li hx); omega
  have live := fun (hk1 : 1 ≤ c.kind) (hk2 : c.kind ≤ 6) => mMet_live w q pos g m h c A a B b C cn D dn cells symbols hd hA hB hC hD hc.ci hc.li hk1 hk2
  rcases kindC_cases hc.kind with ⟨hk, h1⟩ | ⟨hk, h1, h2⟩ | ⟨hk, h1⟩ | ⟨hk, h1⟩ | ⟨hk, h1⟩ | ⟨hk, h1, h2⟩
  · have e : metC q pos c.kind c.n (chosen cells c.cells) (chosen symbols c.letters) = diffAll q (chosen cells c.cells) := by simp [metC, hk]
    rw [e]
    exact live (by omega) (by omega) 48 (by rw [hk]; rfl) (fun _ _ => by kernel_rfl) _ (mDiff_ok w q pos g m h _ _ _)
  · have hp : 0 < (chosen cells c.cells).length := by omega
    have hlp : 0 < (chosen symbols c.letters).length := by omega
    have hl0 := hs16 _ (num_mem hlp)
    have e : metC q pos c.kind c.n (chosen cells c.cells) (chosen symbols c.letters) = someB q 1 (chosen cells c.cells) (homeP q pos (chosen cells c.cells) (num (chosen symbols c.letters) 0)) := by
      rw [home_eq hp, metC_any (by omega) (by omega)]; congr 1; funext x; simp [metOne, hk]
    rw [e]
    exact live (by omega) (by omega) 49 (by rw [hk]; rfl) (fun _ _ => by kernel_rfl) _ (mHome_ok w q pos g m h _ _ _ hp hlp hl0.1 (by omega) hi)
  · have hp : 0 < (chosen cells c.cells).length := by omega
    have e : metC q pos c.kind c.n (chosen cells c.cells) (chosen symbols c.letters) = someB q 6 (chosen cells c.cells) fun x => decide (c.n ≤ x.lo) := by
      rw [apart_eq hp, metC_any (by omega) (by omega)]; congr 1; funext x; simp [metOne, hk]
    rw [e]
    exact live (by omega) (by omega) 50 (by rw [hk]; rfl) (fun _ _ => by kernel_rfl) _ (mApart_ok w q pos g m h _ _ _ hp)
  · have hp : 0 < (chosen cells c.cells).length := by omega
    have e : metC q pos c.kind c.n (chosen cells c.cells) (chosen symbols c.letters) = someB q 4 (chosen cells c.cells) fun x => riseS x.cells (chosen cells c.cells) (-1) := by
      rw [rise_eq hp fun x hx => cons_nodup hv hx, metC_any (by omega) (by omega)]; congr 1; funext x; simp [metOne, hk]
    rw [e]
    exact live (by omega) (by omega) 51 (by rw [hk]; rfl) (fun _ _ => by kernel_rfl) _ (mRise_ok w q pos g m h _ _ _ hp)
  · have hp : 1 < (chosen cells c.cells).length := by omega
    have h0 := hc.cells _ (chosen_mem hc.ci (num_mem (by omega : 0 < (chosen cells c.cells).length)))
    have e : metC q pos c.kind c.n (chosen cells c.cells) (chosen symbols c.letters) = memB (row q.neighbors (num (chosen cells c.cells) 0).toNat) (num (chosen cells c.cells) 1) := by simp [metC, hk]
    rw [e]
    exact live (by omega) (by omega) 52 (by rw [hk]; rfl) (fun _ _ => by kernel_rfl) _ (mNear_ok w q pos g m h _ _ _ hp h0.1 (by omega))
  · have hp : 0 < (chosen cells c.cells).length := by omega
    have e : metC q pos c.kind c.n (chosen cells c.cells) (chosen symbols c.letters) = someB q 2 (chosen cells c.cells) (quotaP pos (chosen cells c.cells) (setOf (chosen symbols c.letters)) c.n) := by
      rw [quota_eq hp hz, metC_any (by omega) (by omega)]; congr 1; funext x; simp [metOne, hk]
    rw [e]
    exact live (by omega) (by omega) 53 (by rw [hk]; rfl) (fun _ _ => by kernel_rfl) _ (mQuota_ok w q pos g m h _ _ _ hp hs16 hi hlo)
end Go.Proofs.YtimkijmjbnmcbaaGreat
namespace Go.Proofs.YtimkijmjbnmcbaaGreat
open Go Go.RowKit
/-- The greatest element. -/
def maxL : List Int → Int
  | [] => 0
  | x :: l => l.foldl max x
theorem maxL_take {l : List Int} {k : Nat} (h1 : 1 ≤ k) (h : k < l.length) : maxL (l.take (k + 1)) = max (maxL (l.take k)) l[k] := by
  cases l with
  | nil => simp at h
  | cons x l =>
    obtain ⟨j, rfl⟩ : ∃ j, k = j + 1 := ⟨k - 1, by omega⟩
    simp only [List.take_succ_cons, maxL, List.getElem_cons_succ]
    rw [List.take_succ_eq_append_getElem (by simpa using h), List.foldl_append]; rfl
theorem maxL_i64 {l : List Int} (h : ∀ x ∈ l, I64 x) : I64 (maxL l) := by
  cases l with
  | nil => exact ⟨by decide, by decide⟩
  | cons x l =>
    simp only [maxL]
    have key : ∀ (l : List Int) (x : Int), I64 x → (∀ y ∈ l, I64 y) → I64 (l.foldl max x) := by
      intro l
      induction l with
      | nil => intro x hx _; exact hx
      | cons y l ih =>
        intro x hx hl
        refine ih _ ?_ fun z hz => hl z (List.mem_cons_of_mem _ hz)
        have := hl y (by simp)
        unfold I64 at *
        omega
    exact key l x (h x (by simp)) fun y hy => h y (List.mem_cons_of_mem _ hy)
set_option maxHeartbeats 1000000 in
theorem sMax_ok (w : World) (A : Option Addr) (c : Nat) (l : List Int) (h : RInts w A l) (hp : 0 < l.length) : Calls Tryz.prog 32 #[.slice A l.length c] w fun e w' => e = .returned (.int .i64 (maxL l)) ∧ w = w' := by
  have hl := h.len
  have hi := h.i64
  have Hi := hid hi; clear hi
  obtain ⟨ad, rfl, hb, hc, hc64⟩ := h.num hp
  have hc0 : w.cell? ad = some (.int .i64 (num l 0)) := hc 0 hp
  have hd1 : decide ((l.length : Int) < 1) = false := by simp; omega
  have H1 := hid (show maxL (l.take 1) = num l 0 by cases l with | nil => simp at hp | cons x l => rfl)
  have Hc := hid hc; clear hc hc64
  go_enter Tryz.func32, Tryz.ntmps32
  go_wp2_with fail
  clear hc0
  go_loop [3, 4] (fun m i => ∃ k : Nat, 1 ≤ k ∧ k ≤ l.length ∧ i = .int .i64 k ∧ m = .int .i64 (maxL (l.take k))) (fun _ i => l.length - (intOf i).toNat)
  case atStart => exact ⟨1, Nat.le_refl _, hp, rfl, by rw [H1.out]⟩
  case round =>
    obtain ⟨k, hk1, hk, rfl, rfl⟩ := hrel
    by_cases hlt : k < l.length
    · have hck := Hc.out k hlt
      rw [num_eq hlt] at hck
      have Hs := hid (maxL_take hk1 hlt)
      go_wp2_with fail
      all_goals
        go_round
        case rel => exact ⟨k + 1, by omega, by omega, by go_num, by rw [Hs.out]⟩
        case measure => simp [intOf]; omega
    · have hall : l.take k = l := List.take_of_length_le (by omega)
      rw [hall]
      go_wp2_with fail
      go_ret
      exact ⟨rfl, rfl⟩

/-- What a function value has to do for the elements of a list of conditions. -/
def AskConds (w : World) (k : Nat) (caps : Array Value) (p : Cond → Bool) (l : List Cond) : Prop :=
  ∀ W x A a B b, Ext w W → x ∈ l → RInts W A x.cells → RInts W B x.letters → Calls Tryz.prog k (#[condV x A a B b] ++ caps) W fun e W' => e = .returned (.bool (p x)) ∧ Ext W W'
set_option maxHeartbeats 400000 in
theorem indexFuncConds_ok (w : World) (A : Option Addr) (c : Nat) (l : List Cond) (h : RConds w A l) (k : Nat) (caps : Array Value) (p : Cond → Bool) (hcf : ∀ xs W, (callFunc k xs).run Tryz.prog W = .ok (.enter k xs) W) (ask : AskConds w k caps p l) :
    Calls Tryz.prog 71 #[.slice A l.length c, .func (.func k) #[] caps] w fun e w' => e = .returned (.int .i64 (idx p l)) ∧ Ext w w' := by
  have hl := h.len
  have Hask := hid ask; clear ask
  go_enter Tryz.func71, Tryz.ntmps71
  go_wp2_with fail
  go_loopw [8] (fun i wr => ∃ k : Nat, k ≤ l.length ∧ i = .int .i64 k ∧ Hid ((l.take k).any p = false) ∧ Ext w wr) (fun i _ => l.length - (intOf i).toNat)
  case atStart => exact ⟨0, Nat.zero_le _, rfl, rfl, Ext.rfl' _⟩
  case round =>
    obtain ⟨j, hj, rfl, hno, hext⟩ := hrel
    by_cases hlt : j < l.length
    · obtain ⟨ad, B, b, C, cc, rfl, _, hB, hC, -, -, h0, h1, h2, h3⟩ := (h.to hext).condAt j hlt
      go_wp2_with fail
      refine (Hask.out wr l[j] B b C cc hext (List.getElem_mem _) hB hC).mono ?_
      rintro e w1 ⟨rfl, hb⟩
      have hext1 := Ext.tr hext hb
      clear h0 h1 h2 h3
      go_wp2_with fail
      · have hz : p l[j] = true := by assumption
        go_ret
        exact ⟨ret_int (idx_found hlt hno hz).symm, hext1⟩
      · have hz : p l[j] = false := by assumption
        go_roundw
        case rel => exact ⟨j + 1, by omega, by go_num, any_on hlt hno hz, hext1⟩
        case measure => simp [intOf]; omega
    · go_wp2_with fail
      go_ret
      exact ⟨ret_int (idx_none (any_end hno hlt)).symm, hext⟩
set_option maxHeartbeats 400000 in
theorem containsFuncConds_ok (w : World) (A : Option Addr) (c : Nat) (l : List Cond) (h : RConds w A l) (k : Nat) (caps : Array Value) (p : Cond → Bool) (hcf : ∀ xs W, (callFunc k xs).run Tryz.prog W = .ok (.enter k xs) W) (ask : AskConds w k caps p l) :
    Calls Tryz.prog 35 #[.slice A l.length c, .func (.func k) #[] caps] w fun e w' => e = .returned (.bool (l.any p)) ∧ Ext w w' := by
  have Hask := hid ask; clear ask
  go_enter Tryz.func35, Tryz.ntmps35
  go_wp2_with fail
  refine (indexFuncConds_ok w A c l h k caps p hcf Hask.out).mono ?_
  rintro e w1 ⟨rfl, hb⟩
  go_wp2_with fail
  go_ret
  exact ⟨ret_bool (idx_nonneg p l), hb⟩
end Go.Proofs.YtimkijmjbnmcbaaGreat
namespace Go.Proofs.YtimkijmjbnmcbaaGreat
open Go.RowKit
theorem chosen33_n (w : World) (A B : Option Addr) (c d : Nat) (l s : List Int) (h : RInts w A l) (g : RInts w B s) (hi : Idx s l.length) :
    Calls Tryz.prog 14 #[.slice A l.length c, .slice B s.length d] w (RetIs w (chosen l s)) := chosen33_ok w A B c d l s h g hi
/-- What Met's own two boxes hold. -/
def MetBox (W : World) (g : Nat) (q : Problem) (p : PPtr) (c : Cond) (A : Option Addr) (a : Nat) (B : Option Addr) (b : Nat) : Prop :=
  (W.cell? ⟨g, 0, none⟩ = some (.int .i64 q.cells) ∧ W.cell? ⟨g, 1, none⟩ = some (.int .i64 q.symbols) ∧ W.cell? ⟨g, 2, none⟩ = some (.slice p.a q.values.length p.ac) ∧ W.cell? ⟨g, 3, none⟩ = some (.slice p.b q.neighbors.length p.bc) ∧ W.cell? ⟨g, 4, none⟩ = some (.slice p.c q.cons.length p.cc)) ∧
  W.cell? ⟨g + 1, 0, none⟩ = some (.int .i64 c.kind) ∧ W.cell? ⟨g + 1, 1, none⟩ = some (.slice A c.cells.length a) ∧ W.cell? ⟨g + 1, 2, none⟩ = some (.slice B c.letters.length b) ∧ W.cell? ⟨g + 1, 3, none⟩ = some (.int .i64 c.n)
theorem metBox {w W : World} {q : Problem} {p : PPtr} {c : Cond} {A : Option Addr} {a : Nat} {B : Option Addr} {b : Nat} (h : Ext ((w.alloc (probO q p)).alloc (condO c A a B b)) W) : MetBox W w.heap.size q p c A a B b := by
  have hx1 := ((Ext.rfl' _).al _).tr h
  have e1 := World.size_alloc w (probO q p)
  exact ⟨⟨boxE hx1 rfl 0 _ rfl, boxE hx1 rfl 1 _ rfl, boxE hx1 rfl 2 _ rfl, boxE hx1 rfl 3 _ rfl, boxE hx1 rfl 4 _ rfl⟩, boxE h e1 0 _ rfl, boxE h e1 1 _ rfl, boxE h e1 2 _ rfl, boxE h e1 3 _ rfl⟩
theorem chosen_as {w : World} {A B : Option Addr} {c d : Nat} {l s own : List Int} (h : RInts w A l) (g : RInts w B s) (hi : Idx s l.length) (ho : chosen l s = own) : ∀ W, Ext w W → Calls Tryz.prog 14 #[.slice A l.length c, .slice B s.length d] W (RetIs W own) := by
  subst ho
  exact fun W hW => chosen33_ok W A B c d l s (h.to hW) (g.to hW) hi
end Go.Proofs.YtimkijmjbnmcbaaGreat
namespace Go.Proofs.YtimkijmjbnmcbaaGreat
open Go.RowKit
end Go.Proofs.YtimkijmjbnmcbaaGreat
namespace Go.Proofs.YtimkijmjbnmcbaaGreat
open Go.RowKit
end Go.Proofs.YtimkijmjbnmcbaaGreat
namespace Go.Proofs.YtimkijmjbnmcbaaGreat
open Go.RowKit
end Go.Proofs.YtimkijmjbnmcbaaGreat
namespace Go.Proofs.YtimkijmjbnmcbaaGreat
open Go.RowKit
end Go.Proofs.YtimkijmjbnmcbaaGreat
namespace Go.Proofs.YtimkijmjbnmcbaaGreat
open Go.RowKit
end Go.Proofs.YtimkijmjbnmcbaaGreat
namespace Go.Proofs.YtimkijmjbnmcbaaGreat
open Go Go.RowKit
def argB (l : List Int) (n : Int) (most : Nat) : Bool := decide (1 ≤ l.length) && decide (l.length ≤ most) && diffB l n
/-- What Cond answers. -/
def condR (q : Problem) (pos : List Int) (c : Cond) (cells symbols : List Int) : Bool × Int :=
  if checkB q pos then (if argB cells q.cells 4 && argB symbols q.symbols 3 then (if condB c cells.length symbols.length then (metB q pos c cells symbols, 0) else (false, 300)) else (false, 330)) else (false, checkE q pos)
/-- A truth and an error. -/
def RetBE (w : World) (r : Bool × Int) (e : Ending) (w' : World) : Prop := e = .returned (.tuple #[.bool r.1, .int .i64 r.2]) ∧ Ext w w'
theorem RetBE.of {w : World} {r : Bool × Int} {b : Bool} {er : Int} {w' : World} (hr : r = (b, er)) (h : Ext w w') : RetBE w r (.returned (.tuple #[.bool b, .int .i64 er])) w' := by subst hr; exact ⟨rfl, h⟩
theorem diff_iff {l : List Int} {n : Int} (h : diffB l n = true) : ∀ x ∈ l, 0 ≤ x ∧ x < n := by
  intro x hx
  obtain ⟨i, hi, rfl⟩ := List.getElem_of_mem hx
  have := List.all_eq_true.1 h i (List.mem_range.2 hi)
  simp only [diffAt, Bool.and_eq_true, decide_eq_true_eq] at this
  rw [num_eq hi] at this
  exact this.1
theorem condOK_of {q : Problem} {c : Cond} {cells symbols : List Int} (h1 : diffB cells q.cells = true) (h2 : diffB symbols q.symbols = true) (h3 : condB c cells.length symbols.length = true) : CondOK q c cells symbols := by
  simp only [condB, Bool.and_eq_true, decide_eq_true_eq] at h3
  refine ⟨h3.2, fun x hx => ?_, fun x hx => ?_, diff_iff h1, diff_iff h2⟩
  · have := diff_iff h3.1.1.1 x hx; omega
  · have := diff_iff h3.1.2 x hx; omega
end Go.Proofs.YtimkijmjbnmcbaaGreat
namespace Go.Proofs.YtimkijmjbnmcbaaGreat
open Go Go.RowKit
def abcd : List ByteArray := [⟨#[97]⟩, ⟨#[98]⟩, ⟨#[99]⟩, ⟨#[100]⟩]
/-- The rule that Cond makes to check a condition. -/
def oneRule (c : Cond) (n m : Nat) : Rule := { name := ⟨#[108]⟩, level := 1, cells := abcd.take n, letters := abcd.take m, conds := [c], premises := [], cell := 0, letter := 0 }
theorem oneRule_valid {c : Cond} {n m : Nat} (h1 : 1 ≤ n) (h2 : n ≤ 4) (h3 : 1 ≤ m) (h4 : m ≤ 3) : validR (oneRule c n m) = condB c n m := by
  have hn : (abcd.take n).length = n := by simp [abcd]; omega
  have hm : (abcd.take m).length = m := by simp [abcd]; omega
  have e1 : namesB (abcd.take n) 4 = true := by
    have : n = 1 ∨ n = 2 ∨ n = 3 ∨ n = 4 := by omega
    rcases this with rfl | rfl | rfl | rfl <;> decide +kernel
  have e2 : namesB (abcd.take m) 3 = true := by
    have : m = 1 ∨ m = 2 ∨ m = 3 := by omega
    rcases this with rfl | rfl | rfl <;> decide +kernel
  have e3 : nameB ⟨#[108]⟩ = true := by decide +kernel
  unfold validR preR1 preR2 oneRule
  simp only [e1, e2, e3, hn, hm]
  have a1 : decide ((0 : Int) ≤ 0 ∧ (0 : Int) < (n : Int)) = true := decide_eq_true (by omega)
  have a2 : decide ((0 : Int) ≤ 0 ∧ (0 : Int) < (m : Int)) = true := decide_eq_true (by omega)
  rw [a1, a2]
  simp [diffB]
abbrev abcdV : Array Value := #[.string ⟨#[97]⟩, .string ⟨#[98]⟩, .string ⟨#[99]⟩, .string ⟨#[100]⟩]
theorem abcd_strs {W : World} {g : Nat} {t : TypeId} (h : Blk W g t abcdV) (n : Nat) (hn : n ≤ 4) : RStrs W (some ⟨g, 0, none⟩) (abcd.take n) := by
  refine ⟨by simp [abcd]; omega, fun _ => ⟨_, rfl, h.lt, fun i hi => ?_⟩⟩
  have hi4 : i < 4 := by simp [abcd] at hi; omega
  refine ⟨[.string (abcd.take n)[i]], rfl, ⟨rfl, ?_⟩, fun j hj => ?_⟩
  · rw [List.getElem_take]
    have : ∀ i (h : i < abcd.length), (abcd[i]).size ≤ maxLen := by decide +kernel
    exact this i (by simp [abcd]; omega)
  · obtain rfl : j = 0 := by simpa using hj
    have e2 : (⟨g, 0, none⟩ : Addr).add (i * 1 + 0) = ⟨g, i, none⟩ := by unfold Addr.add; simp; intro h; exact h.symm
    rw [e2, h.cell]
    simp only [List.getElem_cons_zero, List.getElem_take]
    match i, hi4 with
    | 0, _ => rfl
    | 1, _ => rfl
    | 2, _ => rfl
    | 3, _ => rfl
theorem one_conds {W : World} {g : Nat} {t : TypeId} {c : Cond} {A : Option Addr} {a : Nat} {B : Option Addr} {b : Nat} (h : Blk W g t (condCells c A a B b).toArray) (hA : RInts W A c.cells) (hB : RInts W B c.letters) (hk : I64 c.kind) (hn : I64 c.n) : RConds W (some ⟨g, 0, none⟩) [c] := by
  refine ⟨by simp, fun _ => ⟨_, rfl, h.lt, fun i hi => ?_⟩⟩
  obtain rfl : i = 0 := by simpa using hi
  refine ⟨condCells c A a B b, rfl, ⟨A, a, B, b, rfl, hA, hB, hk, hn⟩, fun j hj => ?_⟩
  have e2 : (⟨g, 0, none⟩ : Addr).add (0 * 4 + j) = ⟨g, j, none⟩ := by unfold Addr.add; simp; intro h; exact h.symm
  rw [e2, h.cell]
  simp only [List.getElem?_toArray]
  exact List.getElem?_eq_getElem hj
theorem check_one (W : World) (c : Cond) (A : Option Addr) (a : Nat) (B : Option Addr) (b : Nat) (n m gn gc : Nat) (t t' : TypeId) (hgn : Blk W gn t abcdV) (hgc : Blk W gc t' (condCells c A a B b).toArray) (hA : RInts W A c.cells) (hB : RInts W B c.letters) (hk : I64 c.kind) (hn : I64 c.n)
    (h1 : 1 ≤ n) (h2 : n ≤ 4) (h3 : 1 ≤ m) (h4 : m ≤ 3) (r : Bool) (hr : condB c n m = r) :
    Calls Tryz.prog 38 #[.agg #[.string ⟨#[108]⟩, .int .i64 1, .slice (some ⟨gn, 0, none⟩) n 4, .slice (some ⟨gn, 0, none⟩) m 4, .slice (some ⟨gc, 0, none⟩) 1 1, .slice none 0 0, .int .i64 0, .int .i64 0]] W fun e w' => e = .returned (.int .i64 (if r then 0 else 300)) ∧ Ext W w' := by
  have hln : (abcd.take n).length = n := by simp [abcd]; omega
  have hlm : (abcd.take m).length = m := by simp [abcd]; omega
  have h := lmCheck_ok W (oneRule c n m) ⟨some ⟨gn, 0, none⟩, 4, some ⟨gn, 0, none⟩, 4, some ⟨gc, 0, none⟩, 1, none, 0⟩
    ⟨abcd_strs hgn n h2, abcd_strs hgn m (by omega), one_conds hgc hA hB hk hn, ⟨by simp [oneRule], fun h => absurd h (by simp [oneRule])⟩, ⟨by simp [oneRule], by simp [oneRule]⟩, ⟨by simp [oneRule], by simp [oneRule]⟩, ⟨by simp [oneRule], by simp [oneRule]⟩, (by show (⟨#[108]⟩ : ByteArray).size ≤ maxLen; decide +kernel)⟩
  unfold validRE at h
  rw [oneRule_valid h1 h2 h3 h4, hr] at h
  unfold ruleV oneRule at h
  simp only [hln, hlm, List.length_cons, List.length_nil, Nat.zero_add] at h
  exact h
/-- A block of one element. -/
def SF.blk (t : TypeId) (cs : Array Value) : SF := ⟨fun W v => ∃ g, v = .slice (some ⟨g, 0, none⟩) 1 1 ∧ Blk W g t cs, fun _ _ _ hb ⟨g, e, h⟩ => ⟨g, e, h.ext hb⟩⟩
/-- A matcher. -/
def SF.mat (q : Problem) (pos : List Int) : SF := ⟨fun W v => ∃ g m, v = .pointer (some ⟨g, 0, none⟩) ∧ RMat W q pos g m, fun _ _ _ hb ⟨g, m, e, h⟩ => ⟨g, m, e, h.to hb⟩⟩
set_option maxHeartbeats 4000000 in
set_option maxRecDepth 100000 in
theorem mCond_ok (w : World) (q : Problem) (p : PPtr) (P : Option Addr) (pn : Nat) (pos : List Int) (c : Cond) (A : Option Addr) (a : Nat) (B : Option Addr) (b : Nat) (C : Option Addr) (cn : Nat) (D : Option Addr) (dn : Nat) (cells symbols : List Int) (hq : RProb w q p) (hP : RInts w P pos)
    (hA : RInts w A c.cells) (hB : RInts w B c.letters) (hk : I64 c.kind) (hn : I64 c.n) (hC : RInts w C cells) (hD : RInts w D symbols) :
    Calls Tryz.prog 17 #[probV q p, .slice P pos.length pn, condV c A a B b, .slice C cells.length cn, .slice D symbols.length dn] w (RetBE w (condR q pos c cells symbols)) := by
  have x0 := ((Ext.rfl' w).al (probO q p)).al (condO c A a B b)
  obtain ⟨pa, pac, pb, pbc, pc, pcc⟩ := p
  have F : ∀ V, Ext ((w.alloc (probO q ⟨pa, pac, pb, pbc, pc, pcc⟩)).alloc (condO c A a B b)) V → MetBox V w.heap.size q ⟨pa, pac, pb, pbc, pc, pcc⟩ c A a B b := fun V hV => metBox hV
  have HF := hid F; clear F
  have hcl := hC.len
  have hdl := hD.len
  cases hc : checkB q pos
  · have he := checkE_no hc
    have hr : condR q pos c cells symbols = (false, checkE q pos) := by unfold condR; rw [hc]; rfl
    have Hr := hid hr; clear hr hc
    go_enter Tryz.func17, Tryz.ntmps17
    go_wp2_with (first
      | (go_at_call 37; refine (pCheck_ok _ q ⟨pa, pac, pb, pbc, pc, pcc⟩ P pn pos (hq.to x0) (hP.to x0)).mono ?_; rintro e w1 ⟨rfl, hb1⟩; obtain ⟨⟨f0, f1, f2, f3, f4⟩, f5, f6, f7, f8⟩ := HF.out w1 hb1; dsimp only at f2 f3 f4)
      | (go_at_call 23; (with_reducible refine (mDifferent_ok _ C cn cells (hC.to (x0.tr hb1)) q.cells).mono ?_); rintro e w2 ⟨rfl, hb2⟩; clear f0 f1 f2 f3 f4 f5 f6 f7 f8; obtain ⟨⟨f0, f1, f2, f3, f4⟩, f5, f6, f7, f8⟩ := HF.out w2 (hb1.tr hb2); dsimp only at f2 f3 f4)
      | (go_at_call 23; (with_reducible refine (mDifferent_ok _ D dn symbols (hD.to (x0.tr (hb1.tr hb2))) q.symbols).mono ?_); rintro e w3 ⟨rfl, hb3⟩; clear f0 f1 f2 f3 f4 f5 f6 f7 f8; obtain ⟨⟨f0, f1, f2, f3, f4⟩, f5, f6, f7, f8⟩ := HF.out w3 (hb1.tr (hb2.tr hb3)); dsimp only at f2 f3 f4))
    go_ret2
    exact RetBE.of Hr.out (x0.tr hb1)
  have he := checkE_ok hc
  have hr : condR q pos c cells symbols = if argB cells q.cells 4 && argB symbols q.symbols 3 then (if condB c cells.length symbols.length then (metB q pos c cells symbols, 0) else (false, 300)) else (false, 330) := by unfold condR; rw [hc]; rfl
  have Hr := hid hr; have Hc := hid hc; clear hr hc
  cases h3 : diffB cells q.cells
  · have h4 : argB cells q.cells 4 = false := by unfold argB; rw [h3]; simp
    have H2 := hid h4; clear h4
    go_enter Tryz.func17, Tryz.ntmps17
    go_wp2_with (first
      | (go_at_call 37; refine (pCheck_ok _ q ⟨pa, pac, pb, pbc, pc, pcc⟩ P pn pos (hq.to x0) (hP.to x0)).mono ?_; rintro e w1 ⟨rfl, hb1⟩; obtain ⟨⟨f0, f1, f2, f3, f4⟩, f5, f6, f7, f8⟩ := HF.out w1 hb1; dsimp only at f2 f3 f4)
      | (go_at_call 23; (with_reducible refine (mDifferent_ok _ C cn cells (hC.to (x0.tr hb1)) q.cells).mono ?_); rintro e w2 ⟨rfl, hb2⟩; clear f0 f1 f2 f3 f4 f5 f6 f7 f8; obtain ⟨⟨f0, f1, f2, f3, f4⟩, f5, f6, f7, f8⟩ := HF.out w2 (hb1.tr hb2); dsimp only at f2 f3 f4)
      | (go_at_call 23; (with_reducible refine (mDifferent_ok _ D dn symbols (hD.to (x0.tr (hb1.tr hb2))) q.symbols).mono ?_); rintro e w3 ⟨rfl, hb3⟩; clear f0 f1 f2 f3 f4 f5 f6 f7 f8; obtain ⟨⟨f0, f1, f2, f3, f4⟩, f5, f6, f7, f8⟩ := HF.out w3 (hb1.tr (hb2.tr hb3)); dsimp only at f2 f3 f4))
    go_ret2
    exact RetBE.of (by rw [Hr.out, H2.out]; first | rfl | (rw [Bool.and_false]; rfl)) (x0.tr (hb1.tr (hb2.tr hb3)))
  cases h7 : diffB symbols q.symbols
  · have h4 : argB symbols q.symbols 3 = false := by unfold argB; rw [h7]; simp
    have H2 := hid h4; clear h4
    go_enter Tryz.func17, Tryz.ntmps17
    go_wp2_with (first
      | (go_at_call 37; refine (pCheck_ok _ q ⟨pa, pac, pb, pbc, pc, pcc⟩ P pn pos (hq.to x0) (hP.to x0)).mono ?_; rintro e w1 ⟨rfl, hb1⟩; obtain ⟨⟨f0, f1, f2, f3, f4⟩, f5, f6, f7, f8⟩ := HF.out w1 hb1; dsimp only at f2 f3 f4)
      | (go_at_call 23; (with_reducible refine (mDifferent_ok _ C cn cells (hC.to (x0.tr hb1)) q.cells).mono ?_); rintro e w2 ⟨rfl, hb2⟩; clear f0 f1 f2 f3 f4 f5 f6 f7 f8; obtain ⟨⟨f0, f1, f2, f3, f4⟩, f5, f6, f7, f8⟩ := HF.out w2 (hb1.tr hb2); dsimp only at f2 f3 f4)
      | (go_at_call 23; (with_reducible refine (mDifferent_ok _ D dn symbols (hD.to (x0.tr (hb1.tr hb2))) q.symbols).mono ?_); rintro e w3 ⟨rfl, hb3⟩; clear f0 f1 f2 f3 f4 f5 f6 f7 f8; obtain ⟨⟨f0, f1, f2, f3, f4⟩, f5, f6, f7, f8⟩ := HF.out w3 (hb1.tr (hb2.tr hb3)); dsimp only at f2 f3 f4))
    go_ret2
    exact RetBE.of (by rw [Hr.out, H2.out]; first | rfl | (rw [Bool.and_false]; rfl)) (x0.tr (hb1.tr (hb2.tr hb3)))
  by_cases h1 : cells.length < 1
  · have h2 : argB cells q.cells 4 = false := by unfold argB; rw [decide_eq_false (by omega)]; rfl
    have H2 := hid h2; clear h2
    go_enter Tryz.func17, Tryz.ntmps17
    go_wp2_with (first
      | (go_at_call 37; refine (pCheck_ok _ q ⟨pa, pac, pb, pbc, pc, pcc⟩ P pn pos (hq.to x0) (hP.to x0)).mono ?_; rintro e w1 ⟨rfl, hb1⟩; obtain ⟨⟨f0, f1, f2, f3, f4⟩, f5, f6, f7, f8⟩ := HF.out w1 hb1; dsimp only at f2 f3 f4)
      | (go_at_call 23; (with_reducible refine (mDifferent_ok _ C cn cells (hC.to (x0.tr hb1)) q.cells).mono ?_); rintro e w2 ⟨rfl, hb2⟩; clear f0 f1 f2 f3 f4 f5 f6 f7 f8; obtain ⟨⟨f0, f1, f2, f3, f4⟩, f5, f6, f7, f8⟩ := HF.out w2 (hb1.tr hb2); dsimp only at f2 f3 f4)
      | (go_at_call 23; (with_reducible refine (mDifferent_ok _ D dn symbols (hD.to (x0.tr (hb1.tr hb2))) q.symbols).mono ?_); rintro e w3 ⟨rfl, hb3⟩; clear f0 f1 f2 f3 f4 f5 f6 f7 f8; obtain ⟨⟨f0, f1, f2, f3, f4⟩, f5, f6, f7, f8⟩ := HF.out w3 (hb1.tr (hb2.tr hb3)); dsimp only at f2 f3 f4))
    go_ret2
    exact RetBE.of (by rw [Hr.out, H2.out]; first | rfl | (rw [Bool.and_false]; rfl)) (x0.tr (hb1.tr (hb2.tr hb3)))
  by_cases h2 : 4 < cells.length
  · have h3 : argB cells q.cells 4 = false := by unfold argB; rw [decide_eq_false (by omega : ¬ cells.length ≤ 4)]; simp
    have H2 := hid h3; clear h3
    go_enter Tryz.func17, Tryz.ntmps17
    go_wp2_with (first
      | (go_at_call 37; refine (pCheck_ok _ q ⟨pa, pac, pb, pbc, pc, pcc⟩ P pn pos (hq.to x0) (hP.to x0)).mono ?_; rintro e w1 ⟨rfl, hb1⟩; obtain ⟨⟨f0, f1, f2, f3, f4⟩, f5, f6, f7, f8⟩ := HF.out w1 hb1; dsimp only at f2 f3 f4)
      | (go_at_call 23; (with_reducible refine (mDifferent_ok _ C cn cells (hC.to (x0.tr hb1)) q.cells).mono ?_); rintro e w2 ⟨rfl, hb2⟩; clear f0 f1 f2 f3 f4 f5 f6 f7 f8; obtain ⟨⟨f0, f1, f2, f3, f4⟩, f5, f6, f7, f8⟩ := HF.out w2 (hb1.tr hb2); dsimp only at f2 f3 f4)
      | (go_at_call 23; (with_reducible refine (mDifferent_ok _ D dn symbols (hD.to (x0.tr (hb1.tr hb2))) q.symbols).mono ?_); rintro e w3 ⟨rfl, hb3⟩; clear f0 f1 f2 f3 f4 f5 f6 f7 f8; obtain ⟨⟨f0, f1, f2, f3, f4⟩, f5, f6, f7, f8⟩ := HF.out w3 (hb1.tr (hb2.tr hb3)); dsimp only at f2 f3 f4))
    go_ret2
    exact RetBE.of (by rw [Hr.out, H2.out]; first | rfl | (rw [Bool.and_false]; rfl)) (x0.tr (hb1.tr (hb2.tr hb3)))
  by_cases h5 : symbols.length < 1
  · have h2 : argB symbols q.symbols 3 = false := by unfold argB; rw [decide_eq_false (by omega)]; rfl
    have H2 := hid h2; clear h2
    go_enter Tryz.func17, Tryz.ntmps17
    go_wp2_with (first
      | (go_at_call 37; refine (pCheck_ok _ q ⟨pa, pac, pb, pbc, pc, pcc⟩ P pn pos (hq.to x0) (hP.to x0)).mono ?_; rintro e w1 ⟨rfl, hb1⟩; obtain ⟨⟨f0, f1, f2, f3, f4⟩, f5, f6, f7, f8⟩ := HF.out w1 hb1; dsimp only at f2 f3 f4)
      | (go_at_call 23; (with_reducible refine (mDifferent_ok _ C cn cells (hC.to (x0.tr hb1)) q.cells).mono ?_); rintro e w2 ⟨rfl, hb2⟩; clear f0 f1 f2 f3 f4 f5 f6 f7 f8; obtain ⟨⟨f0, f1, f2, f3, f4⟩, f5, f6, f7, f8⟩ := HF.out w2 (hb1.tr hb2); dsimp only at f2 f3 f4)
      | (go_at_call 23; (with_reducible refine (mDifferent_ok _ D dn symbols (hD.to (x0.tr (hb1.tr hb2))) q.symbols).mono ?_); rintro e w3 ⟨rfl, hb3⟩; clear f0 f1 f2 f3 f4 f5 f6 f7 f8; obtain ⟨⟨f0, f1, f2, f3, f4⟩, f5, f6, f7, f8⟩ := HF.out w3 (hb1.tr (hb2.tr hb3)); dsimp only at f2 f3 f4))
    go_ret2
    exact RetBE.of (by rw [Hr.out, H2.out]; first | rfl | (rw [Bool.and_false]; rfl)) (x0.tr (hb1.tr (hb2.tr hb3)))
  by_cases h6 : 3 < symbols.length
  · have h3 : argB symbols q.symbols 3 = false := by unfold argB; rw [decide_eq_false (by omega : ¬ symbols.length ≤ 3)]; simp
    have H2 := hid h3; clear h3
    go_enter Tryz.func17, Tryz.ntmps17
    go_wp2_with (first
      | (go_at_call 37; refine (pCheck_ok _ q ⟨pa, pac, pb, pbc, pc, pcc⟩ P pn pos (hq.to x0) (hP.to x0)).mono ?_; rintro e w1 ⟨rfl, hb1⟩; obtain ⟨⟨f0, f1, f2, f3, f4⟩, f5, f6, f7, f8⟩ := HF.out w1 hb1; dsimp only at f2 f3 f4)
      | (go_at_call 23; (with_reducible refine (mDifferent_ok _ C cn cells (hC.to (x0.tr hb1)) q.cells).mono ?_); rintro e w2 ⟨rfl, hb2⟩; clear f0 f1 f2 f3 f4 f5 f6 f7 f8; obtain ⟨⟨f0, f1, f2, f3, f4⟩, f5, f6, f7, f8⟩ := HF.out w2 (hb1.tr hb2); dsimp only at f2 f3 f4)
      | (go_at_call 23; (with_reducible refine (mDifferent_ok _ D dn symbols (hD.to (x0.tr (hb1.tr hb2))) q.symbols).mono ?_); rintro e w3 ⟨rfl, hb3⟩; clear f0 f1 f2 f3 f4 f5 f6 f7 f8; obtain ⟨⟨f0, f1, f2, f3, f4⟩, f5, f6, f7, f8⟩ := HF.out w3 (hb1.tr (hb2.tr hb3)); dsimp only at f2 f3 f4))
    go_ret2
    exact RetBE.of (by rw [Hr.out, H2.out]; first | rfl | (rw [Bool.and_false]; rfl)) (x0.tr (hb1.tr (hb2.tr hb3)))
  have h4 : argB cells q.cells 4 = true := by unfold argB; rw [h3, decide_eq_true (by omega), decide_eq_true (by omega)]; rfl
  have h8 : argB symbols q.symbols 3 = true := by unfold argB; rw [h7, decide_eq_true (by omega), decide_eq_true (by omega)]; rfl
  have H4 := hid h4; have H8 := hid h8; clear h4 h8
  have hca := fun r => check_one (c := c) (A := A) (a := a) (B := B) (b := b) (n := cells.length) (m := symbols.length) (r := r) (hk := hk) (hn := hn) (h1 := by omega) (h2 := by omega) (h3 := by omega) (h4 := by omega)
  have Hca := hid hca; clear hca
  have g1 : (cells.length : Int) ≤ 4 := by omega
  have g2 : (symbols.length : Int) ≤ 4 := by omega
  cases h9 : condB c cells.length symbols.length
  · have H9 := hid h9; clear h9
    go_enter Tryz.func17, Tryz.ntmps17
    go_wp2_with (first
      | (go_at_call 37; refine (pCheck_ok _ q ⟨pa, pac, pb, pbc, pc, pcc⟩ P pn pos (hq.to x0) (hP.to x0)).mono ?_; rintro e w1 ⟨rfl, hb1⟩; obtain ⟨⟨f0, f1, f2, f3, f4⟩, f5, f6, f7, f8⟩ := HF.out w1 hb1; dsimp only at f2 f3 f4)
      | (go_at_call 23; (with_reducible refine (mDifferent_ok _ C cn cells (hC.to (x0.tr hb1)) q.cells).mono ?_); rintro e w2 ⟨rfl, hb2⟩; clear f0 f1 f2 f3 f4 f5 f6 f7 f8; obtain ⟨⟨f0, f1, f2, f3, f4⟩, f5, f6, f7, f8⟩ := HF.out w2 (hb1.tr hb2); dsimp only at f2 f3 f4)
      | (go_at_call 23; (with_reducible refine (mDifferent_ok _ D dn symbols (hD.to (x0.tr (hb1.tr hb2))) q.symbols).mono ?_); rintro e w3 ⟨rfl, hb3⟩; clear f0 f1 f2 f3 f4 f5 f6 f7 f8; obtain ⟨⟨f0, f1, f2, f3, f4⟩, f5, f6, f7, f8⟩ := HF.out w3 (hb1.tr (hb2.tr hb3)); dsimp only at f2 f3 f4))
    obtain ⟨wn, hwn⟩ : ∃ wn, w3.alloc (.cells abcdV 9) = wn := ⟨_, rfl⟩
    have xn : Ext w3 wn := by rw [← hwn]; exact (Ext.rfl' _).al _
    have bn : Blk wn w3.heap.size 9 abcdV := by rw [← hwn]; exact Blk.new _ _ _
    clear f0 f1 f2 f3 f4 f5 f6 f7 f8
    have FN : ∀ V, Ext wn V → MetBox V w.heap.size q ⟨pa, pac, pb, pbc, pc, pcc⟩ c A a B b := fun V hV => HF.out V (hb1.tr (hb2.tr (hb3.tr (xn.tr hV))))
    have HFN := hid FN; clear FN
    rw [hwn]
    clear hwn
    refine wp_region_sf_tail 11 (fun | 9 => some (SF.blk 50 (condCells c A a B b).toArray) | _ => none) (by kernel_rfl) (by kernel_rfl) ?_
    repeat (first | (refine wpE_skipK ?_ ?_; (focus ((first | refine wanted_notF rfl rfl ?_ | refine wanted_notT rfl rfl ?_); (focus (simp only [List.getElem?_toArray, List.getElem?_cons_succ, List.getElem?_cons_zero]; done)))); intro K hK; go_simp; apply hK; clear hK K; (have hq9 : True := trivial); clear hq9) | (refine wpE_detN rfl rfl (fun K hK => ?_); apply Exists.intro; apply And.intro; (focus (rintro W ⟨hx, -⟩; obtain ⟨⟨f0, f1, f2, f3, f4⟩, f5, f6, f7, f8⟩ := HFN.out W hx; go_simp; all_goals rfl)); go_simp; apply hK; clear hK K; (have hq9 : True := trivial); clear hq9) | (refine wpE_detK rfl ?_ ?_; (focus (refine wanted_so rfl rfl ?_; (focus (simp only [List.getElem?_toArray, List.getElem?_cons_succ, List.getElem?_cons_zero]; done)))); intro K hK; apply Exists.intro; apply And.intro; (focus (rintro W ⟨hx, -⟩; obtain ⟨⟨f0, f1, f2, f3, f4⟩, f5, f6, f7, f8⟩ := HFN.out W hx; go_simp; all_goals rfl)); go_simp; apply hK; clear hK K; (have hq9 : True := trivial); clear hq9))
    (first | refine wpE_newN _ rfl rfl ?_ ?_ | (refine wpE_newK _ rfl ?_ ?_ ?_; (focus (refine wanted_so rfl rfl ?_; (focus (simp only [List.getElem?_toArray, List.getElem?_cons_succ, List.getElem?_cons_zero]; done))))))
    · rintro W ⟨hW, -⟩
      go_simp
      exact ⟨(Ext.rfl' _).al _, W.heap.size, rfl, Blk.new W _ _⟩
    rintro _ ⟨_, gc, rfl, -⟩ K hK
    go_simp; apply hK; clear hK K; (have hq9 : True := trivial); clear hq9
    repeat (first | (refine wpE_skipK ?_ ?_; (focus ((first | refine wanted_notF rfl rfl ?_ | refine wanted_notT rfl rfl ?_); (focus (simp only [List.getElem?_toArray, List.getElem?_cons_succ, List.getElem?_cons_zero]; done)))); intro K hK; go_simp; apply hK; clear hK K; (have hq9 : True := trivial); clear hq9) | (refine wpE_detN rfl rfl (fun K hK => ?_); apply Exists.intro; apply And.intro; (focus (rintro W ⟨hx, -⟩; obtain ⟨⟨f0, f1, f2, f3, f4⟩, f5, f6, f7, f8⟩ := HFN.out W hx; go_simp; all_goals rfl)); go_simp; apply hK; clear hK K; (have hq9 : True := trivial); clear hq9) | (refine wpE_detK rfl ?_ ?_; (focus (refine wanted_so rfl rfl ?_; (focus (simp only [List.getElem?_toArray, List.getElem?_cons_succ, List.getElem?_cons_zero]; done)))); intro K hK; apply Exists.intro; apply And.intro; (focus (rintro W ⟨hx, -⟩; obtain ⟨⟨f0, f1, f2, f3, f4⟩, f5, f6, f7, f8⟩ := HFN.out W hx; go_simp; all_goals rfl)); go_simp; apply hK; clear hK K; (have hq9 : True := trivial); clear hq9))
    apply wpE_nil
    rintro w4 ⟨hW, hG⟩
    obtain ⟨_, e', bc⟩ := (hG 9).2 rfl
    cases e'
    clear hG
    go_simp
    go_wp2_with fail
    refine (Hca.out false w4 w3.heap.size gc 9 50 (bn.ext hW) bc (hA.to (x0.tr (hb1.tr (hb2.tr (hb3.tr (xn.tr hW)))))) (hB.to (x0.tr (hb1.tr (hb2.tr (hb3.tr (xn.tr hW)))))) H9.out).mono ?_
    rintro e w5 ⟨rfl, hb5⟩
    go_wp2_with fail
    go_ret2
    exact RetBE.of (by rw [Hr.out, H4.out, H8.out, H9.out]; rfl) (x0.tr (hb1.tr (hb2.tr (hb3.tr (xn.tr (hW.tr hb5))))))
  · have Hok := hid (condOK_of h3 h7 h9)
    have H9 := hid h9; clear h9
    go_enter Tryz.func17, Tryz.ntmps17
    go_wp2_with (first
      | (go_at_call 37; refine (pCheck_ok _ q ⟨pa, pac, pb, pbc, pc, pcc⟩ P pn pos (hq.to x0) (hP.to x0)).mono ?_; rintro e w1 ⟨rfl, hb1⟩; obtain ⟨⟨f0, f1, f2, f3, f4⟩, f5, f6, f7, f8⟩ := HF.out w1 hb1; dsimp only at f2 f3 f4)
      | (go_at_call 23; (with_reducible refine (mDifferent_ok _ C cn cells (hC.to (x0.tr hb1)) q.cells).mono ?_); rintro e w2 ⟨rfl, hb2⟩; clear f0 f1 f2 f3 f4 f5 f6 f7 f8; obtain ⟨⟨f0, f1, f2, f3, f4⟩, f5, f6, f7, f8⟩ := HF.out w2 (hb1.tr hb2); dsimp only at f2 f3 f4)
      | (go_at_call 23; (with_reducible refine (mDifferent_ok _ D dn symbols (hD.to (x0.tr (hb1.tr hb2))) q.symbols).mono ?_); rintro e w3 ⟨rfl, hb3⟩; clear f0 f1 f2 f3 f4 f5 f6 f7 f8; obtain ⟨⟨f0, f1, f2, f3, f4⟩, f5, f6, f7, f8⟩ := HF.out w3 (hb1.tr (hb2.tr hb3)); dsimp only at f2 f3 f4))
    obtain ⟨wn, hwn⟩ : ∃ wn, w3.alloc (.cells abcdV 9) = wn := ⟨_, rfl⟩
    have xn : Ext w3 wn := by rw [← hwn]; exact (Ext.rfl' _).al _
    have bn : Blk wn w3.heap.size 9 abcdV := by rw [← hwn]; exact Blk.new _ _ _
    clear f0 f1 f2 f3 f4 f5 f6 f7 f8
    have FN : ∀ V, Ext wn V → MetBox V w.heap.size q ⟨pa, pac, pb, pbc, pc, pcc⟩ c A a B b := fun V hV => HF.out V (hb1.tr (hb2.tr (hb3.tr (xn.tr hV))))
    have HFN := hid FN; clear FN
    rw [hwn]
    clear hwn
    refine wp_region_sf_tail 11 (fun | 9 => some (SF.blk 50 (condCells c A a B b).toArray) | _ => none) (by kernel_rfl) (by kernel_rfl) ?_
    repeat (first | (refine wpE_skipK ?_ ?_; (focus ((first | refine wanted_notF rfl rfl ?_ | refine wanted_notT rfl rfl ?_); (focus (simp only [List.getElem?_toArray, List.getElem?_cons_succ, List.getElem?_cons_zero]; done)))); intro K hK; go_simp; apply hK; clear hK K; (have hq9 : True := trivial); clear hq9) | (refine wpE_detN rfl rfl (fun K hK => ?_); apply Exists.intro; apply And.intro; (focus (rintro W ⟨hx, -⟩; obtain ⟨⟨f0, f1, f2, f3, f4⟩, f5, f6, f7, f8⟩ := HFN.out W hx; go_simp; all_goals rfl)); go_simp; apply hK; clear hK K; (have hq9 : True := trivial); clear hq9) | (refine wpE_detK rfl ?_ ?_; (focus (refine wanted_so rfl rfl ?_; (focus (simp only [List.getElem?_toArray, List.getElem?_cons_succ, List.getElem?_cons_zero]; done)))); intro K hK; apply Exists.intro; apply And.intro; (focus (rintro W ⟨hx, -⟩; obtain ⟨⟨f0, f1, f2, f3, f4⟩, f5, f6, f7, f8⟩ := HFN.out W hx; go_simp; all_goals rfl)); go_simp; apply hK; clear hK K; (have hq9 : True := trivial); clear hq9))
    (first | refine wpE_newN _ rfl rfl ?_ ?_ | (refine wpE_newK _ rfl ?_ ?_ ?_; (focus (refine wanted_so rfl rfl ?_; (focus (simp only [List.getElem?_toArray, List.getElem?_cons_succ, List.getElem?_cons_zero]; done))))))
    · rintro W ⟨hW, -⟩
      go_simp
      exact ⟨(Ext.rfl' _).al _, W.heap.size, rfl, Blk.new W _ _⟩
    rintro _ ⟨_, gc, rfl, -⟩ K hK
    go_simp; apply hK; clear hK K; (have hq9 : True := trivial); clear hq9
    repeat (first | (refine wpE_skipK ?_ ?_; (focus ((first | refine wanted_notF rfl rfl ?_ | refine wanted_notT rfl rfl ?_); (focus (simp only [List.getElem?_toArray, List.getElem?_cons_succ, List.getElem?_cons_zero]; done)))); intro K hK; go_simp; apply hK; clear hK K; (have hq9 : True := trivial); clear hq9) | (refine wpE_detN rfl rfl (fun K hK => ?_); apply Exists.intro; apply And.intro; (focus (rintro W ⟨hx, -⟩; obtain ⟨⟨f0, f1, f2, f3, f4⟩, f5, f6, f7, f8⟩ := HFN.out W hx; go_simp; all_goals rfl)); go_simp; apply hK; clear hK K; (have hq9 : True := trivial); clear hq9) | (refine wpE_detK rfl ?_ ?_; (focus (refine wanted_so rfl rfl ?_; (focus (simp only [List.getElem?_toArray, List.getElem?_cons_succ, List.getElem?_cons_zero]; done)))); intro K hK; apply Exists.intro; apply And.intro; (focus (rintro W ⟨hx, -⟩; obtain ⟨⟨f0, f1, f2, f3, f4⟩, f5, f6, f7, f8⟩ := HFN.out W hx; go_simp; all_goals rfl)); go_simp; apply hK; clear hK K; (have hq9 : True := trivial); clear hq9))
    apply wpE_nil
    rintro w4 ⟨hW, hG⟩
    obtain ⟨_, e', bc⟩ := (hG 9).2 rfl
    cases e'
    clear hG
    go_simp
    go_wp2_with fail
    refine (Hca.out true w4 w3.heap.size gc 9 50 (bn.ext hW) bc (hA.to (x0.tr (hb1.tr (hb2.tr (hb3.tr (xn.tr hW)))))) (hB.to (x0.tr (hb1.tr (hb2.tr (hb3.tr (xn.tr hW)))))) H9.out).mono ?_
    rintro e w5 ⟨rfl, hb5⟩
    go_wp2_with fail
    clear Hca
    have x5 := xn.tr (hW.tr hb5)
    have HF5 := hid (fun V (hV : Ext w5 V) => HFN.out V ((hW.tr hb5).tr hV)); clear HFN
    have y5 := x0.tr (hb1.tr (hb2.tr (hb3.tr x5)))
    have hv : validB q = true := by have := Hc.out; unfold checkB at this; rw [Bool.and_eq_true] at this; exact this.1
    refine wp_region_sf (fun | 2 => some (SF.mat q pos) | 6 => some (SF.val (.bool (metB q pos c cells symbols))) | _ => none) (by kernel_rfl) (by kernel_rfl) ?_
    repeat (first | (refine wpE_skipK ?_ ?_; (focus ((first | refine wanted_notF rfl rfl ?_ | refine wanted_notT rfl rfl ?_); (focus (simp only [List.getElem?_toArray, List.getElem?_cons_succ, List.getElem?_cons_zero]; done)))); intro K hK; go_simp; apply hK; clear hK K; (have hq9 : True := trivial); clear hq9) | (refine wpE_detN rfl rfl (fun K hK => ?_); apply Exists.intro; apply And.intro; (focus (rintro W ⟨hx, -⟩; obtain ⟨⟨f0, f1, f2, f3, f4⟩, f5, f6, f7, f8⟩ := HF5.out W hx; go_simp; all_goals rfl)); go_simp; apply hK; clear hK K; (have hq9 : True := trivial); clear hq9) | (refine wpE_detK rfl ?_ ?_; (focus (refine wanted_so rfl rfl ?_; (focus (simp only [List.getElem?_toArray, List.getElem?_cons_succ, List.getElem?_cons_zero]; done)))); intro K hK; apply Exists.intro; apply And.intro; (focus (rintro W ⟨hx, -⟩; obtain ⟨⟨f0, f1, f2, f3, f4⟩, f5, f6, f7, f8⟩ := HF5.out W hx; go_simp; all_goals rfl)); go_simp; apply hK; clear hK K; (have hq9 : True := trivial); clear hq9))
    (first | refine wpE_newN _ rfl rfl ?_ ?_ | (refine wpE_newK _ rfl ?_ ?_ ?_; (focus (refine wanted_so rfl rfl ?_; (focus (simp only [List.getElem?_toArray, List.getElem?_cons_succ, List.getElem?_cons_zero]; done))))))
    · rintro W ⟨hW', -⟩
      go_simp
      refine ⟨Ext.rfl' _, (mNew_ok W q ⟨pa, pac, pb, pbc, pc, pcc⟩ P pn pos (hq.to (y5.tr hW')) (hP.to (y5.tr hW')) (fun c hc => cons_len hv hc) (valid_cons hv).1).mono fun e W' hr => ?_⟩
      obtain ⟨g, m, rfl, hm, hx⟩ := hr
      exact ⟨_, rfl, hx, g, m, rfl, hm⟩
    rintro _ ⟨_, g, m, rfl, -⟩ K hK
    go_simp; apply hK; clear hK K; (have hq9 : True := trivial); clear hq9
    repeat (first | (refine wpE_skipK ?_ ?_; (focus ((first | refine wanted_notF rfl rfl ?_ | refine wanted_notT rfl rfl ?_); (focus (simp only [List.getElem?_toArray, List.getElem?_cons_succ, List.getElem?_cons_zero]; done)))); intro K hK; go_simp; apply hK; clear hK K; (have hq9 : True := trivial); clear hq9) | (refine wpE_detN rfl rfl (fun K hK => ?_); apply Exists.intro; apply And.intro; (focus (rintro W ⟨hx, -⟩; obtain ⟨⟨f0, f1, f2, f3, f4⟩, f5, f6, f7, f8⟩ := HF5.out W hx; go_simp; all_goals rfl)); go_simp; apply hK; clear hK K; (have hq9 : True := trivial); clear hq9) | (refine wpE_detK rfl ?_ ?_; (focus (refine wanted_so rfl rfl ?_; (focus (simp only [List.getElem?_toArray, List.getElem?_cons_succ, List.getElem?_cons_zero]; done)))); intro K hK; apply Exists.intro; apply And.intro; (focus (rintro W ⟨hx, -⟩; obtain ⟨⟨f0, f1, f2, f3, f4⟩, f5, f6, f7, f8⟩ := HF5.out W hx; go_simp; all_goals rfl)); go_simp; apply hK; clear hK K; (have hq9 : True := trivial); clear hq9))
    (first | refine wpE_newN _ rfl rfl ?_ ?_ | (refine wpE_newK _ rfl ?_ ?_ ?_; (focus (refine wanted_so rfl rfl ?_; (focus (simp only [List.getElem?_toArray, List.getElem?_cons_succ, List.getElem?_cons_zero]; done))))))
    · rintro W ⟨hW', hG⟩
      obtain ⟨g', m', e', hm⟩ := (hG ⟨2, .data⟩ (by simp) rfl).2 rfl
      cases e'
      clear hG
      have z := y5.tr hW'
      go_simp
      refine ⟨Ext.rfl' _, (mMet_ok W q pos g m' hm c A a B b C cn D dn cells symbols (hA.to z) (hB.to z) (hC.to z) (hD.to z) Hc.out Hok.out).mono fun e W' ⟨he, hb⟩ => ?_⟩
      exact ⟨_, he, hb, rfl⟩
    rintro _ ⟨_, rfl⟩ K hK
    go_simp; apply hK; clear hK K; (have hq9 : True := trivial); clear hq9
    repeat (first | (refine wpE_skipK ?_ ?_; (focus ((first | refine wanted_notF rfl rfl ?_ | refine wanted_notT rfl rfl ?_); (focus (simp only [List.getElem?_toArray, List.getElem?_cons_succ, List.getElem?_cons_zero]; done)))); intro K hK; go_simp; apply hK; clear hK K; (have hq9 : True := trivial); clear hq9) | (refine wpE_detN rfl rfl (fun K hK => ?_); apply Exists.intro; apply And.intro; (focus (rintro W ⟨hx, -⟩; obtain ⟨⟨f0, f1, f2, f3, f4⟩, f5, f6, f7, f8⟩ := HF5.out W hx; go_simp; all_goals rfl)); go_simp; apply hK; clear hK K; (have hq9 : True := trivial); clear hq9) | (refine wpE_detK rfl ?_ ?_; (focus (refine wanted_so rfl rfl ?_; (focus (simp only [List.getElem?_toArray, List.getElem?_cons_succ, List.getElem?_cons_zero]; done)))); intro K hK; apply Exists.intro; apply And.intro; (focus (rintro W ⟨hx, -⟩; obtain ⟨⟨f0, f1, f2, f3, f4⟩, f5, f6, f7, f8⟩ := HF5.out W hx; go_simp; all_goals rfl)); go_simp; apply hK; clear hK K; (have hq9 : True := trivial); clear hq9))
    apply wpE_nil
    rintro w6 ⟨hW6, hG⟩
    clear hG
    go_wp2_with fail
    go_ret2
    exact RetBE.of (by rw [Hr.out, H4.out, H8.out, H9.out]; rfl) (y5.tr hW6)
end Go.Proofs.YtimkijmjbnmcbaaGreat
