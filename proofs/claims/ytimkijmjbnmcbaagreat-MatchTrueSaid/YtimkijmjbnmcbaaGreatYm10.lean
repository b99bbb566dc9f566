/- Contract: constraints of problems are checked (the reference's text). -/
import Derived.Deep.DeepCutAuto
import Derived.Deep.Light
import Derived.Test.YtimkijmjbnmcbaaGreatYm7
import Derived.Test.YtimkijmjbnmcbaaGreatYm9
namespace Go.Proofs.YtimkijmjbnmcbaaGreat
open Go.RowKit

theorem inB_iff (lo hi : Int) (l : List Int) : inB lo hi l = true ↔ ∀ k, k < l.length → lo ≤ num l k ∧ num l k ≤ hi := by
  unfold inB
  rw [List.all_eq_true]
  constructor
  · intro h k hk
    have := h l[k] (List.getElem_mem hk)
    rw [num_eq hk]
    simpa using this
  · intro h x hx
    obtain ⟨k, hk, rfl⟩ := List.getElem_of_mem hx
    have := h k hk
    rw [num_eq hk] at this
    simpa using this
theorem distinct_iff (l : List Int) : distinct l = true ↔ ∀ i, i < l.length → ∀ k, k < i → num l i ≠ num l k := by
  unfold distinct
  simp only [List.all_eq_true, List.mem_range]
  constructor
  · intro h i hi k hk; simpa using h i hi k hk
  · intro h i hi k hk; simpa using h i hi k hk
theorem met_iff (l : List Int) (i : Nat) : met l i = false ↔ ∀ k, k < i → num l i ≠ num l k := by
  unfold met
  rw [List.any_eq_false]
  constructor
  · intro h k hk e; exact h k (List.mem_range.2 hk) (by simp [e])
  · intro h k hk; have := h k (List.mem_range.1 hk); simp; exact fun e => this e.symm
theorem cells_iff (cells : Int) (c : Cons) : (List.range c.cells.length).all (cellOk cells c) = true ↔
    inB 0 (cells - 1) c.cells = true ∧ distinct c.cells = true ∧ (8 ≤ c.kind → ∀ i, i < c.cells.length → num c.cells i = i) := by
  rw [inB_iff, distinct_iff, List.all_eq_true]
  simp only [List.mem_range]
  constructor
  · intro h
    refine ⟨fun k hk => ?_, fun i hi k hk => ?_, fun h8 i hi => ?_⟩
    · have := h k hk
      simp only [cellOk, Bool.and_eq_true, decide_eq_true_eq] at this
      omega
    · have := h i hi
      simp only [cellOk, Bool.and_eq_true, Bool.not_eq_true'] at this
      exact (met_iff _ _).1 this.1.2 k hk
    · have := h i hi
      simp only [cellOk, Bool.and_eq_true, Bool.or_eq_true, decide_eq_true_eq, beq_iff_eq] at this
      omega
  · rintro ⟨h1, h2, h3⟩ i hi
    have a := h1 i hi
    have b := (met_iff c.cells i).2 (h2 i hi)
    simp only [cellOk, b, Bool.and_eq_true, Bool.or_eq_true, decide_eq_true_eq, beq_iff_eq, Bool.not_false, and_true]
    refine ⟨⟨a.1, by omega⟩, ?_⟩
    by_cases h8 : c.kind < 8
    · exact .inl h8
    · exact .inr (h3 (by omega) i hi)
theorem cells_few (cells : Int) (c : Cons) (h0 : 0 ≤ cells) (h : (List.range c.cells.length).all (cellOk cells c) = true) : (c.cells.length : Int) ≤ cells := by
  obtain ⟨h1, h2, _⟩ := (cells_iff cells c).1 h
  rw [inB_iff] at h1
  rw [distinct_iff] at h2
  have hp := pigeon cells.toNat ((List.range c.cells.length).map fun i => (num c.cells i).toNat) (by
    rw [List.nodup_iff_pairwise_ne, List.pairwise_map, List.pairwise_iff_getElem]
    intro i j hi hj hij
    rw [List.length_range] at hi hj
    simp only [List.getElem_range]
    have := h1 i hi
    have := h1 j hj
    have := h2 j hj i hij
    omega) (by
    intro x hx
    obtain ⟨i, hi, rfl⟩ := List.mem_map.1 hx
    have := h1 i (List.mem_range.1 hi)
    omega)
  simp at hp
  omega

theorem fineB_false1 {cells symbols : Int} {c : Cons} (h : ¬ ((List.range c.cells.length).all (cellOk cells c) = true)) : fineB cells symbols c = false := by
  have : (List.range c.cells.length).all (cellOk cells c) = false := by simpa using h
  simp [fineB, this]
theorem fineB_false2 {cells symbols : Int} {c : Cons} (h : kindOk cells c = false) : fineB cells symbols c = false := by simp [fineB, h]

theorem RInts.two_at {W : World} {a b : Int} {t : TypeId} {g : Nat} (hg : W.heap.size = g) (ha : I64 a) (hb : I64 b) : RInts (W.alloc (.cells #[.int .i64 a, .int .i64 b] t)) (some ⟨g, 0, none⟩) [a, b] := by
  subst hg; exact RInts.two ha hb
theorem between19_n (w : World) (A : Option Addr) (c n : Nat) (l : List Int) (hn : l.length = n) (h : RInts w A l) (lo hi : Int) :
    Calls Tryz.prog 40 #[.slice A n c, .int .i64 lo, .int .i64 hi] w fun e w' => e = .returned (.bool (inB lo hi l)) ∧ w = w' := by
  subst hn; exact between19_ok w A c l h lo hi

set_option maxRecDepth 100000 in
set_option maxHeartbeats 2000000 in
theorem fine19_ok (w : World) (c : Cons) (A : Option Addr) (a : Nat) (B : Option Addr) (b : Nat) (cells symbols : Int) (hA : RInts w A c.cells) (hB : RInts w B c.runs) (hok : c.ok) (h1 : 1 ≤ cells) (h2 : cells ≤ 256) (h3 : 1 ≤ symbols) (h4 : symbols ≤ 16) :
    Calls Tryz.prog 42 #[.agg (consCells c A a B b).toArray, .int .i64 cells, .int .i64 symbols] w fun e w' => e = .returned (.bool (fineB cells symbols c)) ∧ Ext w w' := by
  have hl := hA.len
  have hp := pow_bd symbols (by omega) h4
  have e1 : wrap64 (2 ^ symbols.toNat) = 2 ^ symbols.toNat := by rw [← IntWalk.i64_left]; exact IntWalk.i64_in _ ⟨by omega, by omega⟩
  have e2 : wrap64 (2 ^ symbols.toNat - 1) = 2 ^ symbols.toNat - 1 := by rw [← IntWalk.i64_left]; exact IntWalk.i64_in _ ⟨by omega, by omega⟩
  have hA' := hA.to ((Ext.rfl' w).al (consO c A a B b))
  go_enter Tryz.func42, Tryz.ntmps42
  go_upto_region 3 with (first
    | (go_at_call 40; (with_reducible refine (between19_ok _ A _ c.cells hA' _ _).mono ?_); rintro e w' ⟨rfl, rfl⟩)
    | (go_at_call 79; (with_reducible refine (diff19_ok _ A _ c.cells hA').mono ?_); rintro e w' ⟨rfl, nd, rfl⟩))
  all_goals first
    | (go_ret
       refine ⟨ret_bool ?_, by first | exact (Ext.rfl' _).al _ | exact ((Ext.rfl' _).al _).drN _⟩
       go_light
       symm
       first
         | exact fineB_false2 (by grind [kindOk])
         | exact fineB_false1 (fun h => by have := cells_few cells c (by omega) h; have := (cells_iff cells c).1 h; grind))
    | skip
  go_cut [51] (fun s wx => s = .bool (decide ((c.kind = 6 ∨ c.kind = 7) ∧ (c.cells.length : Int) ≠ 2)) ∧ Ext (w.alloc (consO c A a B b)) wx ∧ Hid (inB 0 (cells - 1) c.cells = true) ∧ Hid (distinct c.cells = true) ∧ Hid (1 ≤ c.kind ∧ c.kind ≤ 9))
  case first =>
    have hlen : c.cells.length = c.cells.length := rfl
    go_wp2_with fail
    all_goals (go_meet; exact ⟨congrArg Value.bool (by go_light; grind), Ext.drN (Ext.rfl' _) _, by go_light; exact by grind [Hid], by go_light; exact by grind [Hid], by go_light; exact by grind [Hid]⟩)
  case rest =>
    obtain ⟨rfl, hx, hin, hdi, hki⟩ := hcut
    have g0 := boxE hx rfl 0 (.int .i64 c.kind) rfl
    have g1 := boxE hx rfl 1 (.slice A c.cells.length a) rfl
    have g2 := boxE hx rfl 2 (.int .i64 c.set) rfl
    have g3 := boxE hx rfl 3 (.int .i64 c.other) rfl
    have g4 := boxE hx rfl 4 (.int .i64 c.lo) rfl
    have g5 := boxE hx rfl 5 (.int .i64 c.hi) rfl
    have g6 := boxE hx rfl 6 (.slice B c.runs.length b) rfl
    have hx0 := ((Ext.rfl' w).al _).tr hx
    clear hA'
    by_cases hk1 : (c.kind = 6 ∨ c.kind = 7) ∧ (c.cells.length : Int) ≠ 2
    · have hd1 : decide ((c.kind = 6 ∨ c.kind = 7) ∧ (c.cells.length : Int) ≠ 2) = true := by simpa using hk1
      go_wp2_with fail
      go_ret
      exact ⟨ret_bool (fineB_false2 (by go_light; grind [kindOk])).symm, hx0⟩
    · have hd1 : decide ((c.kind = 6 ∨ c.kind = 7) ∧ (c.cells.length : Int) ≠ 2) = false := by simpa using hk1
      rw [hd1]
      clear hd1
      have Hk1 := hid hk1; clear hk1
      go_upto_region 5 with fail
      go_cut [66] (fun s wx => s = .bool (decide ((c.kind = 8 ∨ c.kind = 9) ∧ (c.cells.length : Int) ≠ cells)) ∧ wx = wc)
      case first =>
        go_wp2_with fail
        all_goals (go_meet; exact ⟨congrArg Value.bool (by go_light; grind), rfl⟩)
      case rest =>
        obtain ⟨rfl, rfl⟩ := hcut
        by_cases hk2 : (c.kind = 8 ∨ c.kind = 9) ∧ (c.cells.length : Int) ≠ cells
        · have hd1 : decide ((c.kind = 8 ∨ c.kind = 9) ∧ (c.cells.length : Int) ≠ cells) = true := by simpa using hk2
          go_wp2_with fail
          go_ret
          exact ⟨ret_bool (fineB_false2 (by go_light; grind [kindOk])).symm, hx0⟩
        · have hd1 : decide ((c.kind = 8 ∨ c.kind = 9) ∧ (c.cells.length : Int) ≠ cells) = false := by simpa using hk2
          rw [hd1]
          clear hd1
          have Hk : Hid (kindOk cells c = true) := by
            have := Hk1.out; have := hki.out
            show kindOk cells c = true
            rw [kindOk, decide_eq_true_eq]
            omega
          clear Hk1 hk2
          go_wp2_with fail
          go_loop [7] (fun i => ∃ k : Nat, k ≤ c.cells.length ∧ i = .int .i64 k ∧ Hid (8 ≤ c.kind → ∀ i, i < k → num c.cells i = i)) (fun i => c.cells.length - (intOf i).toNat)
          case atStart => exact ⟨0, Nat.zero_le _, rfl, fun _ i hi => absurd hi (by omega)⟩
          case round =>
            obtain ⟨k, hk, rfl, hno⟩ := hrel
            by_cases hlt : k < c.cells.length
            · obtain ⟨ad, rfl, _, hc, _⟩ := (hA.to hx0).num (by omega)
              go_wp2_with fail
              all_goals first
                | (go_ret
                   exact ⟨ret_bool (fineB_false1 (fun h => by
                     have h3 := ((cells_iff cells c).1 h).2.2
                     have := h3 (by go_light; grind) k hlt
                     go_light; grind)).symm, hx0⟩)
                | (go_round
                   case rel =>
                     refine ⟨k + 1, by omega, by go_num, fun h8 i hi => ?_⟩
                     by_cases hik : i < k
                     · exact hno h8 i hik
                     · obtain rfl : i = k := by omega
                       have := hki.out
                       go_light; grind
                   case measure => simp [intOf]; omega)
            · have hall : Hid ((List.range c.cells.length).all (cellOk cells c) = true) := (cells_iff cells c).2 ⟨hin.out, hdi.out, fun h8 i hi => hno h8 i (by omega)⟩
              clear hin hdi hno hki hl
              have hok2 : I64 c.kind ∧ I64 c.set ∧ I64 c.other ∧ I64 c.lo ∧ I64 c.hi ∧ I64 c.rule ∧ I64 c.at_ := hok
              obtain ⟨_, o1, o2, o3, o4, _, _⟩ := hok2
              have hlt0 : w.heap.size < wc.heap.size := by have := hx.size; rw [World.size_alloc] at this; omega
              have k1 : ∀ o j, (wc.alloc o).cell? ⟨w.heap.size, j, none⟩ = wc.cell? ⟨w.heap.size, j, none⟩ := fun o j => World.cell?_alloc_lt wc o _ hlt0
              have k2 : ∀ o o' j, ((wc.alloc o).alloc o').cell? ⟨w.heap.size, j, none⟩ = wc.cell? ⟨w.heap.size, j, none⟩ := fun o o' j => (World.cell?_alloc_lt (wc.alloc o) o' _ (by rw [World.size_alloc]; show w.heap.size < _; omega)).trans (k1 o j)
              go_wp2_with (first
                | (go_at_call 40; (with_reducible refine (between19_n _ _ _ 2 [c.set, c.other] rfl (RInts.two_at rfl o1 o2) _ _).mono ?_); rintro e w' ⟨rfl, rfl⟩)
                | (go_at_call 40; (with_reducible refine (between19_n _ _ _ 2 [c.lo, c.hi] rfl (RInts.two_at (World.size_alloc _ _) o3 o4) _ _).mono ?_); rintro e w' ⟨rfl, rfl⟩)
                | (go_at_call 40; (with_reducible refine (between19_ok _ B _ c.runs (hB.to (by repeat (first | exact hx0 | refine Ext.al ?_ _ ))) _ _).mono ?_); rintro e w' ⟨rfl, rfl⟩))
              all_goals go_ret
              all_goals refine ⟨ret_bool ?_, by repeat (first | exact hx0 | refine Ext.al ?_ _)⟩
              all_goals (have := hall.out; have := Hk.out; go_light; symm; simp only [fineB, numsOk])
              all_goals first | (simp [*]; done) | (simp [*]; omega) | trace_state
end Go.Proofs.YtimkijmjbnmcbaaGreat
