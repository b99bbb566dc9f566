/- The elements of a set of symbols, an iterator. -/
import Derived.Test.YtjinbjkbchnhpaaSeq
import Derived.Test.YtjinbjkbchnhpaaBits
import Derived.Test.YtjinbjkbchnhpaaRows
import Derived.Shelf.Abstract
import Derived.Shelf.RegionOpen
import Derived.WalkKit
import Derived.OwnWalkIn
import Derived.TacticsInMore
import Derived.LoopNIn
import Derived.LoopIn
namespace Go.Proofs.Ytjinbjkbchnhpaa
open Go.RowKit Go.Shelf
attribute [local go_sem] Oper.semAt_some

/-- The iterator's blocks lie at B or behind. -/
def TB (B : Nat) (T : TSet) (W : World) : Prop := B ≤ W.heap.size ∧ ∀ k, T k → B ≤ k ∧ k < W.heap.size
theorem stays_below {β : Type} (B : Nat) (p : β → World → Prop) (hp : ∀ s W W', p s W → Below B W W' → p s W') : Stays (fun s T W => TB B T W ∧ p s W) := by
  intro s T T' W W' ⟨⟨h1, h2⟩, h3⟩ k1 k2 k3
  refine ⟨⟨Nat.le_trans h1 k1.size, fun k hk => ?_⟩, hp s W W' h3 (k1.below h1 (fun k hk ht => by have := h2 k ht; omega))⟩
  have := k1.size
  rcases k3 k hk with h | h
  · have := h2 k h; omega
  · omega

def elemsTo (x : Int) (k : Nat) : List Nat := (List.range k).filter (hasS x)
theorem elemsTo_succ (x : Int) (k : Nat) : elemsTo x (k + 1) = elemsTo x k ++ if hasS x k then [k] else [] := by
  unfold elemsTo; rw [List.range_succ, List.filter_append]
  cases h : hasS x k <;> simp [h]
theorem elemsTo_yes {x : Int} {k : Nat} (h : hasS x k = true) : elemsTo x (k + 1) = elemsTo x k ++ [k] := by rw [elemsTo_succ, h]; rfl
theorem elemsTo_no {x : Int} {k : Nat} (h : hasS x k = false) : elemsTo x (k + 1) = elemsTo x k := by rw [elemsTo_succ, h]; simp
def elems (x : Int) : List Nat := elemsTo x 64
theorem elemsTo_prefix (x : Int) {k : Nat} (h : k ≤ 64) : elemsTo x k <+: elems x := by
  obtain ⟨j, hj⟩ := Nat.exists_eq_add_of_le h
  unfold elems
  rw [hj]
  clear hj h
  induction j with
  | zero => exact List.prefix_rfl
  | succ j ih => rw [← Nat.add_assoc, elemsTo_succ]; exact ih.trans (List.prefix_append _ _)
theorem elemsTo_rest {x : Int} {k : Nat} (h : k ≤ 64) (hn : ∀ j, k ≤ j → j < 64 → hasS x j = false) : elemsTo x k = elems x := by
  obtain ⟨j, hj⟩ := Nat.exists_eq_add_of_le h
  unfold elems
  rw [hj]
  replace hn : ∀ i, i < j → hasS x (k + i) = false := fun i hi => hn _ (by omega) (by omega)
  clear hj h
  induction j with
  | zero => rfl
  | succ j ih => rw [← Nat.add_assoc, elemsTo_no (hn j (by omega))]; exact ih fun i hi => hn i (by omega)
theorem hasS_none {s : Int} {k : Nat} (h : s / 2 ^ k = 0) (j : Nat) (hj : k ≤ j) (hj2 : j < 64) : hasS s j = false := by
  obtain ⟨i, rfl⟩ := Nat.exists_eq_add_of_le hj
  rw [hasS_shift _ _ hj2, Int.pow_add, ← Int.ediv_ediv_of_nonneg (Int.le_of_lt (Int.pow_pos (by decide))), h]
  simp
theorem ubit_one {s : Int} {k : Nat} (hk : k < 64) : bits .and .u64 (s / 2 ^ k) 1 = if hasS s k then 1 else 0 := by
  rw [ubits_and, hasS_shift s k hk, ← bv_mod2]
  have : bv 1 = BitVec.twoPow 64 0 := by decide
  rw [this, BitVec.and_twoPow]
  cases h : (bv (s / 2 ^ k)).getLsbD 0
  · simp
  · simp
theorem KB.cell {K : Nat → Prop} {a b : World} (h : KB K a b) {p : Addr} {v : Value} (hp : K p.block) (hc : a.cell? p = some v) : b.cell? p = some v := by
  have hl : p.block < a.heap.size := by
    by_cases hl : p.block < a.heap.size
    · exact hl
    · have : a.heap[p.block]? = none := Array.getElem?_eq_none (by omega)
      simp [World.cell?, this] at hc
  rw [← hc]
  simp only [World.cell?, h.block _ hl hp]

set_option maxRecDepth 100000 in
set_option maxHeartbeats 2000000 in
theorem all1_seq (w : World) (g : Nat) (s : Int) (h0 : 0 ≤ s) (h1 : s < 18446744073709551616) (hb : w.cell? ⟨g, 0, none⟩ = some (.int .u64 s)) (hg : g < w.heap.size) :
    Seq Try.prog 44 #[.pointer (some ⟨g, 0, none⟩)] (fun x : Nat => #[.int .i64 (x : Int)]) (fun k => k = g) (fun _ _ x => x < 64) (fun xs => xs = elems s) (fun pre => pre <+: elems s) w := by
  intro l J Jx W hW hJ hJx hY hs
  refine (callsIn_wide (n := 3)).1 (callsIn_of_wp Try.func44 rfl trivial ?_ rfl)
  simp only [Try.ntmps44, List.size_toArray, List.length_cons, List.length_nil, Nat.reduceAdd, Nat.reduceSub, Array.replicate_succ, Array.replicate_zero, List.push_toArray, List.append_toArray, List.nil_append, List.cons_append]
  have hc := cellE hW hb hg
  gi_wp2
  gi_loopw [3] (fun i wr => ∃ k : Nat, k ≤ 64 ∧ i = .int .i64 k ∧ J (elemsTo s k) (fun _ => False) wr ∧ KB (fun k => k = g) W wr) (fun i _ => 64 - (intOf i).toNat)
  case atStart => exact ⟨0, by omega, rfl, hs, KB.refl _ _⟩
  case round =>
    obtain ⟨k, hk, rfl, hj, hkb⟩ := hrel
    have hcr : wr.cell? ⟨g, 0, none⟩ = some (.int .u64 s) := hkb.cell (p := ⟨g, 0, none⟩) rfl hc
    by_cases hz : s / 2 ^ k = 0
    · have Hr := hid (elemsTo_rest hk (hasS_none hz))
      gi_wp2
      go_end0
      exact ⟨⟨_, rfl⟩, .inl ⟨_, _, Hr.out, hj⟩⟩
    · have hzb : (s / 2 ^ k != 0) = true := by simpa using hz
      clear hz
      by_cases hlt : k < 64
      · have hbit := ubit_one (s := s) hlt
        cases hS : hasS s k
        · have Hn := hid (elemsTo_no hS)
          have hb0 : bits .and .u64 (s / 2 ^ k) 1 = 0 := by rw [hbit, hS]; rfl
          clear hbit hS
          gi_wp2
          refine ⟨fun _ h => (by cases h), ?_⟩
          gi_wp2
          go_roundw
          case rel => exact ⟨k + 1, by omega, by go_num, by rw [Hn.out]; exact hj, hkb⟩
          case measure => simp [intOf]; omega
        · have Hn := hid (elemsTo_yes hS)
          have hb0 : bits .and .u64 (s / 2 ^ k) 1 = 1 := by rw [hbit, hS]; rfl
          clear hbit hS
          obtain ⟨fn, tmps, assign, body, hy, hR⟩ := hY _ k _ wr hj hlt (by rw [← Hn.out]; exact elemsTo_prefix s (by omega)) 2
          gi_wp2
          refine hR.mono ?_
          rintro e W3 (⟨rfl, hj3, hk3⟩ | ⟨rfl, hjx3⟩)
          · gi_wp2
            go_roundw
            case rel => exact ⟨k + 1, by omega, by go_num, by rw [Hn.out]; exact hj3, hkb.tr (hk3.mono fun _ _ h => .inl h)⟩
            case measure => simp [intOf]; omega
          · gi_wp2
            refine bodyPost_ret (results_none rfl _ _ _) rfl ?_
            exact ⟨⟨_, rfl⟩, .inr ⟨_, _, by rw [← Hn.out]; exact elemsTo_prefix s (by omega), hjx3⟩⟩
      · obtain rfl : k = 64 := by omega
        gi_wp2
        go_end0
        exact ⟨⟨_, rfl⟩, .inl ⟨_, _, rfl, hj⟩⟩

set_option maxHeartbeats 400000 in
theorem all_ok (w : World) (s : Int) :
    Calls Try.prog 34 #[.int .u64 s] w fun e w' => e = .returned (.func (.func 44) #[] #[.pointer (some ⟨w.heap.size, 0, none⟩)]) ∧ w' = w.alloc (.cells #[.int .u64 s] 53) := by
  go_enter Try.func34, Try.ntmps34
  go_wp2
  go_ret
  exact ⟨rfl, rfl⟩
end Go.Proofs.Ytjinbjkbchnhpaa
