/- Contracts: how many symbols a set has. -/
import Derived.Test.YtjinbjkbchnhpaaAll
namespace Go.Proofs.Ytjinbjkbchnhpaa
open Go.RowKit Go.Shelf
attribute [local go_sem] Oper.semAt_some

/-- The marks of loops over functions among a function's deferred calls. -/
def marks (Ds : List Nat) : List Deferred := Ds.map fun D => { target := .collected D, args := #[] }
def Marked (Ds : List Nat) (W : World) : Prop := Ds.Nodup ∧ ∀ D ∈ Ds, W.heap[D]? = some (.deferred (some []))
theorem leaves_marks {P : Program} {n : Nat} {fn : Func} {tmps : Array Value} {R : Ending → World → Prop} :
    ∀ (Ds : List Nat) (W : World), Marked Ds W → (∀ W', KB (fun k => k ∉ Ds) W W' → ∃ v, (results fn tmps).run P W' = .ok v W' ∧ R (.returned v) W') → LeavesInM Fence.wide n P fn tmps R (marks Ds) .returning W
  | [], W, _, h => h W (KB.refl _ _)
  | D :: Ds, W, hm, h => by
    have hD := hm.2 D (by simp)
    refine ⟨by simp, .inl ⟨D, _, rfl, run_takeDeferred hD, leaves_marks Ds _ ⟨(List.nodup_cons.1 hm.1).2, fun E hE => ?_⟩ fun W' hk => h W' ?_⟩⟩
    · exact (World.putObj_heap_other (fun e => (List.nodup_cons.1 hm.1).1 (by rw [← e]; exact hE))).trans (hm.2 E (List.mem_cons_of_mem _ hE))
    · exact (KB.put D _ (by simp)).tr (hk.mono fun k _ hk h => hk (List.mem_cons_of_mem _ h))

/-- How many elements a set has. -/
def card (x : Int) : Int := (elems x).length
theorem elemsTo_len (x : Int) (k : Nat) : (elemsTo x k).length ≤ k := by
  unfold elemsTo; exact Nat.le_trans (List.length_filter_le _ _) (by simp)
theorem hasS_uwrap (x : Int) (k : Nat) : hasS (IntKind.u64.wrap x) k = hasS x k := by unfold hasS; rw [bv_uwrap]
theorem elems_uwrap (x : Int) : elems (IntKind.u64.wrap x) = elems x := by unfold elems elemsTo; congr 1; funext k; exact hasS_uwrap x k
theorem u64_bd (x : Int) : 0 ≤ IntKind.u64.wrap x ∧ IntKind.u64.wrap x < 18446744073709551616 := by rw [IntKind.wrap_u64]; omega

set_option maxRecDepth 100000 in
set_option maxHeartbeats 2000000 in
theorem pSize_ok (w : World) (x : Int) : Calls Try.prog 24 #[.int .i64 x] w fun e w' => e = .returned (.int .i64 (card x)) ∧ Ext w w' := by
  have hu := u64_bd x
  refine (callsIn_wide (n := 1)).1 (callsIn_of_wp_marks Try.func24 rfl trivial (wpIn_wide.2 ?_) rfl)
  simp only [Try.ntmps24, List.size_toArray, List.length_cons, List.length_nil, Nat.reduceAdd, Nat.reduceSub, Array.replicate_succ, Array.replicate_zero, List.push_toArray, List.append_toArray, List.nil_append, List.cons_append]
  go_wp2_with (go_at_call 34; refine (all_ok _ _).mono ?_; rintro e w' ⟨rfl, rfl⟩)
  obtain ⟨w1, hw1⟩ : ∃ w1, (w.alloc (.cells #[.int .i64 0] 3)).alloc (.cells #[.int .u64 (IntKind.u64.wrap x)] 53) = w1 := ⟨_, rfl⟩
  rw [hw1]
  have hz : w1.heap.size = w.heap.size + 1 + 1 := by rw [← hw1]; simp
  have x1 : Ext w w1 := by rw [← hw1]; exact ((Ext.rfl' w).al _).al _
  have b0 : Blk w1 w.heap.size 3 #[.int .i64 0] := by rw [← hw1]; exact (Blk.new w _ _).ext ((Ext.rfl' _).al _)
  have b1 : w1.cell? ⟨w.heap.size + 1, 0, none⟩ = some (.int .u64 (IntKind.u64.wrap x)) := by
    rw [← hw1]; have := (Blk.new (w.alloc (.cells #[.int .i64 0] 3)) 53 #[.int .u64 (IntKind.u64.wrap x)]).cell 0; rw [World.size_alloc] at this; exact this
  refine wp_rangeSeq (all1_seq w1 (w.heap.size + 1) _ hu.1 hu.2 b1 (by omega)) rfl (fun _ _ => by kernel_rfl) (Ext.rfl' _) (fun k hk => by omega) (fun _ => rfl) (fun _ _ _ _ _ _ h _ => h)
    (fun pre T W => TB w1.heap.size T W ∧ Blk W w.heap.size 3 #[.int .i64 (pre.length : Int)] ∧ Below w.heap.size w W ∧ pre.length ≤ 64) (fun _ _ _ _ => False)
    (stays_below _ _ fun pre W W' ⟨h1, h2, h3⟩ hb => ⟨(hb.block _ (by omega)).trans h1, h2.trans (hb.mono (by omega)), h3⟩) (fun _ _ _ _ _ _ h _ _ _ => h)
    ⟨⟨Nat.le_refl _, fun _ h => h.elim⟩, b0, x1, by simp⟩
    (fun x' a' _ _ => a' = { tmps := #[.int .i64 x, undef, .pointer (some ⟨w.heap.size, 0, none⟩), .int .i64 x, .int .u64 (IntKind.u64.wrap x), .func (.func 44) #[] #[.pointer (some ⟨w.heap.size + 1, 0, none⟩)], .int .i64 (x' : Int), undef, undef, undef], defers := [] })
    (fun _ _ _ _ _ _ _ h _ _ _ => h) ?assign (fun _ _ _ _ _ h _ _ _ _ => h) ?body ?done ?stop
  case assign =>
    intro l pre x' T W K hi hr hK
    gi_wp2
    exact hK _ _ (Ext.rfl' _) hr (by simp)
  case body =>
    rintro l pre x' a' T W hlo hT ⟨hTB, hbx, hbe, hle⟩ rfl hx hsp
    have hlen := Nat.le_trans hsp.length_le (elemsTo_len _ _)
    rw [List.length_append, List.length_singleton] at hlen
    have hc := hbx.cell 0
    have hf := hbx.frozen 0
    gi_wp2
    refine ⟨(KB.refl _ _).set (.inr fun h => ?_) _, ⟨by rw [World.size_setCell]; exact hTB.1, by rw [World.size_setCell]; exact hTB.2⟩, ?_, hbe.setCell (p := ⟨w.heap.size, 0, none⟩) (Nat.le_refl _) _, ?_⟩
    · rcases h with h | h
      · exact absurd h (by simp)
      · have := hTB.2 _ h; simp at this; omega
    · have := hbx.set 0 (.int .i64 (pre.length + 1 : Int))
      simpa using this
    · simpa using hlen
  case done =>
    rintro D xs T W hD rfl ⟨hTB, hbx, hbe, hle⟩ hK
    have hc := hbx.cell 0
    have hf := hbx.frozen 0
    go_wp2
    have hK' : (W.setCell ⟨w.heap.size, 0, none⟩ (.int .i64 ((elems (IntKind.u64.wrap x)).length : Int))).heap[D]? = some (.deferred (some [])) := (Below.heap_setCell _ _ _ _ (by simp; omega)).trans hK
    refine leaves_marks [D] _ ⟨by simp, fun E hE => by rw [List.mem_singleton.1 hE]; exact hK'⟩ fun W' hk => ?_
    have hc' := hk.cell (p := ⟨w.heap.size, 0, none⟩) (by simp; omega) (World.cell?_setCell_same' W ⟨w.heap.size, 0, none⟩ (.int .i64 ((elems (IntKind.u64.wrap x)).length : Int)) (by rw [hc]; rfl))
    refine ⟨.int .i64 (elems (IntKind.u64.wrap x)).length, ?_, ?_, (hbe.setCell (p := ⟨w.heap.size, 0, none⟩) (Nat.le_refl _) _).trans (hk.below (by have := hTB.1; simp; omega) fun k hk => by simp; omega)⟩
    · simp [results, Try.f24, go_sem, hc']
    · rw [card, elems_uwrap]
  case stop =>
    intro D c pre T W _ _ h
    exact h.elim
end Go.Proofs.Ytjinbjkbchnhpaa
