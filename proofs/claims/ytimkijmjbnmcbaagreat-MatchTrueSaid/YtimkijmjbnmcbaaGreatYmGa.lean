/- Contracts: sets of nodes as blocks of Booleans; the reference's connected and list. -/
import Derived.Deep.OwnRows
import Derived.Test.YtimkijmjbnmcbaaGreatYm7
import Derived.Test.YtimkijmjbnmcbaaGreatYm3
import Derived.Test.YtimkijmjbnmcbaaGreatYm6
import Derived.Test.YtimkijmjbnmcbaaGreatYm5
namespace Go.Proofs.YtimkijmjbnmcbaaGreat
open Go Go.RowKit
def bA (l : List Bool) : Array Value := (l.map Value.bool).toArray
def bit_ (l : List Bool) (k : Nat) : Bool := l.getD k false
theorem bit_eq {l : List Bool} {k : Nat} (h : k < l.length) : bit_ l k = l[k] := by simp [bit_, h]
theorem bA_get {l : List Bool} {k : Nat} (h : k < l.length) : (bA l)[k]? = some (.bool (bit_ l k)) := by simp [bA, bit_eq h, h]
theorem bA_set (l : List Bool) (k : Nat) (b : Bool) : (bA l).setIfInBounds k (.bool b) = bA (l.set k b) := by
  unfold bA; rw [List.map_set]; simp
theorem made_bool (n : Nat) : madeCells #[.bool false] n = bA (List.replicate n false) := by
  apply Array.toList_inj.1
  rw [toList_madeCells_one]
  simp [bA]
abbrev BB (w : World) (g : Nat) (l : List Bool) : Prop := Blk w g 4 (bA l)
theorem BB.at_ {w : World} {g : Nat} {l : List Bool} (h : BB w g l) {k : Nat} (hk : k < l.length) : w.cell? ⟨g, k, none⟩ = some (.bool (bit_ l k)) := by rw [h.cell, bA_get hk]
theorem BB.put {w : World} {g : Nat} {l : List Bool} (h : BB w g l) (k : Nat) (b : Bool) : BB (w.setCell ⟨g, k, none⟩ (.bool b)) g (l.set k b) := by
  have := Blk.set h k (.bool b); rwa [bA_set] at this
/-- A fresh set of nodes is handed back. -/
def RetBs (w : World) (n : Nat) (P : List Bool → Prop) (e : Ending) (w' : World) : Prop := ∃ (l : List Bool) (g : Nat), l.length = n ∧ P l ∧ e = .returned (.slice (some ⟨g, 0, none⟩) n n) ∧ BB w' g l ∧ w.heap.size ≤ g ∧ Ext w w'
/-- 'make([]bool, n)'. -/
theorem make_bools (n : Nat) (hn : n ≤ 281474976710656) (w : World) : (Instr.makeSlice 106 (.int .i64 (n : Int)) (.int .i64 (n : Int))).run Tryz.prog w = .ok (.slice (some ⟨w.heap.size, 0, none⟩) n n) (w.alloc (.cells (bA (List.replicate n false)) 4)) := by
  obtain ⟨i, hi1, hz, hsz, hby⟩ := info_parts (P := Tryz.prog) (e := 4) (z := .bool false) (size := 1) (bytes := 1) (by kernel_rfl)
  rw [← made_bool]
  exact run_make_row (P := Tryz.prog) 106 4 i (.bool false) (by kernel_rfl) hi1 hz hsz rfl .i64 .i64 n (by rw [hby]; omega) (by omega) w
/-- The nodes of a set. -/
def nodesTo (l : List Bool) (k : Nat) : List Int := ((List.range k).filter (bit_ l)).map Int.ofNat
theorem nodesTo_succ (l : List Bool) (k : Nat) : nodesTo l (k + 1) = nodesTo l k ++ if bit_ l k then [(k : Int)] else [] := by
  unfold nodesTo
  rw [List.range_succ, List.filter_append, List.map_append]
  congr 1
  cases h : bit_ l k <;> simp [h]
def nodes (l : List Bool) : List Int := nodesTo l l.length
theorem nodes_mem {l : List Bool} {x : Int} : x ∈ nodes l ↔ ∃ k : Nat, k < l.length ∧ bit_ l k = true ∧ x = k := by
  unfold nodes nodesTo
  simp only [List.mem_map, List.mem_filter, List.mem_range]
  constructor
  · rintro ⟨k, ⟨h1, h2⟩, rfl⟩; exact ⟨k, h1, h2, rfl⟩
  · rintro ⟨k, h1, h2, rfl⟩; exact ⟨k, ⟨h1, h2⟩, rfl⟩
theorem nodesTo_len (l : List Bool) (k : Nat) : (nodesTo l k).length ≤ k := by
  unfold nodesTo
  rw [List.length_map]
  have := List.length_filter_le (bit_ l) (List.range k)
  simpa using this
set_option maxHeartbeats 1000000 in
theorem list12_ok (w : World) (g : Nat) (l : List Bool) (h : BB w g l) (hl : l.length ≤ 1000000) : Calls Tryz.prog 100 #[.slice (some ⟨g, 0, none⟩) l.length l.length] w fun e w' => ∃ A c, e = .returned (.slice A (nodes l).length c) ∧ RInts w' A (nodes l) ∧ (∀ ad, A = some ad → w.heap.size ≤ ad.block) ∧ Ext w w' := by
  go_enter Tryz.func100, Tryz.ntmps100
  go_wp2_with fail
  go_loopw [3, 4] (fun v i wr => ∃ (k : Nat) (A : Option Addr) (c : Nat), k ≤ l.length ∧ i = .int .i64 k ∧ v = .slice A (nodesTo l k).length c ∧ OwnI wr w.heap.size (.slice A (nodesTo l k).length c) (nodesTo l k) ∧ Ext w wr) (fun _ i _ => l.length - (intOf i).toNat)
  case atStart => exact ⟨0, none, 0, Nat.zero_le _, rfl, by simp [nodesTo], (OwnI.nil _ _).as (by simp [nodesTo]) (by simp [nodesTo]), Ext.rfl' _⟩
  case round =>
    obtain ⟨k, A, c, hk, rfl, rfl, ho, hx⟩ := hrel
    by_cases hlt : k < l.length
    · have hc := BB.at_ (h.ext hx) hlt
      have hlen := nodesTo_len l k
      have Hs := hid (nodesTo_succ l k)
      cases hb : bit_ l k
      · rw [hb] at hc Hs
        go_wp2_with fail
        go_roundw
        case rel => exact ⟨k + 1, A, c, by omega, by go_num, by rw [Hs.out]; simp, ho.as (by rw [Hs.out]; simp) (by rw [Hs.out]; simp), hx⟩
        case measure => simp [intOf]; omega
      · rw [hb] at hc Hs
        go_wp2_with (at_builtin; refine app_one w hx rfl _ _ rfl A (nodesTo l k).length c _ rfl ho _ (k : Int) rfl ⟨by omega, by omega⟩ (by omega) ?_; intro A' c' w2 hown2 hx2 _)
        go_roundw
        case rel => exact ⟨k + 1, A', c', by omega, by go_num, by rw [Hs.out]; simp, hown2.as (by rw [Hs.out]; simp) Hs.out.symm, hx2⟩
        case measure => simp [intOf]; omega
    · obtain rfl : k = l.length := by omega
      go_wp2_with fail
      go_ret
      obtain ⟨_, _, e9, -, hb9⟩ := ho.form
      cases e9
      exact ⟨A, c, rfl, ho.ints, fun ad e => (hb9 ad e).2, hx⟩
/-- A graph's rows name its nodes. -/
def GR (g : List (List Int)) : Prop := ∀ i, i < g.length → ∀ k, k < (row g i).length → 0 ≤ num (row g i) k ∧ num (row g i) k < g.length
/-- How many nodes are missing. -/
def miss (l : List Bool) : Nat := (l.filter (! ·)).length
theorem miss_set : ∀ {l : List Bool} {k : Nat}, k < l.length → bit_ l k = false → miss (l.set k true) + 1 = miss l
  | b :: l, 0, _, h => by
    have : b = false := h
    subst this
    simp [miss]
  | b :: l, k + 1, hk, h => by
    have h2 : bit_ l k = false := h
    have := miss_set (by simpa using hk) h2
    unfold miss at *
    cases b <;> simp at * <;> omega
theorem bit_set {l : List Bool} {k j : Nat} (hk : k < l.length) : bit_ (l.set k true) j = (bit_ l j || decide (j = k)) := by
  unfold bit_
  rw [List.getD_eq_getElem?_getD, List.getD_eq_getElem?_getD, List.getElem?_set]
  by_cases e : k = j
  · subst e; simp [hk]
  · simp [e, Ne.symm e]
end Go.Proofs.YtimkijmjbnmcbaaGreat
