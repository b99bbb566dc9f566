/- Contracts of small functions on lists of integers: what each returns, and that nothing that was there turns. -/
import Derived.Test.YtjinbjkbchnhpaaRows
import Derived.Test.YtjinbjkbchnhpaaLib
namespace Go.Proofs.Ytjinbjkbchnhpaa
open Go.RowKit

set_option maxHeartbeats 400000 in
theorem dead_ok (w : World) (A : Option Addr) (c : Nat) (l : List Int) (h : RInts w A l) :
    Calls Try.prog 33 #[.slice A l.length c] w fun e w' => e = .returned (.bool (l.any (· == 0))) ∧ w = w' := by
  have hl := h.len
  go_enter Try.func33, Try.ntmps33
  go_wp2
  go_loop [7, 4] (fun i _ => ∃ k : Nat, k ≤ l.length ∧ i = .int .i64 k ∧ Hid ((l.take k).any (· == 0) = false)) (fun i _ => l.length - (intOf i).toNat)
  case atStart => exact ⟨0, Nat.zero_le _, rfl, rfl⟩
  case round =>
    obtain ⟨k, hk, rfl, hno⟩ := hrel
    by_cases hlt : k < l.length
    · obtain ⟨ad, rfl, _, hc, _⟩ := h.at_ k hlt
      go_wp2
      · have hz : (l[k] == 0) = true := by assumption
        go_ret
        exact ⟨ret_bool (any_of_at k hlt hz).symm, rfl⟩
      · have hz : (l[k] == 0) = false := by assumption
        exact ⟨⟨k + 1, by omega, by go_num, any_on hlt hno hz⟩, by simp [intOf]; omega⟩
    · go_wp2
      go_ret
      exact ⟨ret_bool (any_end hno hlt).symm, rfl⟩

set_option maxHeartbeats 400000 in
theorem within1_ok (w : World) (x lo hi : Int) (a b : Addr) (ha : w.cell? a = some (.int .i64 lo)) (hb : w.cell? b = some (.int .i64 hi)) :
    Calls Try.prog 46 #[.int .i64 x, .pointer (some a), .pointer (some b)] w fun e w' => e = .returned (.bool (decide (x < lo) || decide (hi < x))) ∧ w = w' := by
  by_cases h1 : x < lo
  · go_enter Try.func46, Try.ntmps46
    go_wp2
    go_ret
    exact ⟨ret_bool (by simp [h1]), rfl⟩
  · go_enter Try.func46, Try.ntmps46
    go_wp2
    go_ret
    exact ⟨ret_bool (by simp; omega), rfl⟩

/-- What a function value has to do for the elements of a list of integers: it answers p, and turns nothing that was there. -/
def AskInt (w : World) (k : Nat) (caps : Array Value) (p : Int → Bool) (l : List Int) : Prop :=
  ∀ W x, Ext w W → x ∈ l → Calls Try.prog k (#[.int .i64 x] ++ caps) W fun e W' => e = .returned (.bool (p x)) ∧ Ext W W'

set_option maxHeartbeats 400000 in
theorem indexFuncInt_ok (w : World) (A : Option Addr) (c : Nat) (l : List Int) (h : RInts w A l) (k : Nat) (caps : Array Value) (p : Int → Bool) (hcf : ∀ xs W, (callFunc k xs).run Try.prog W = .ok (.enter k xs) W) (ask : AskInt w k caps p l) :
    Calls Try.prog 52 #[.slice A l.length c, .func (.func k) #[] caps] w fun e w' => e = .returned (.int .i64 (idx p l)) ∧ Ext w w' := by
  have hl := h.len
  have Hask := hid ask; clear ask
  go_enter Try.func52, Try.ntmps52
  go_wp2_with fail
  go_loopw [8] (fun i wr => ∃ k : Nat, k ≤ l.length ∧ i = .int .i64 k ∧ Hid ((l.take k).any p = false) ∧ Ext w wr) (fun i _ => l.length - (intOf i).toNat)
  case atStart => exact ⟨0, Nat.zero_le _, rfl, rfl, Ext.rfl' _⟩
  case round =>
    obtain ⟨j, hj, rfl, hno, hext⟩ := hrel
    by_cases hlt : j < l.length
    · obtain ⟨ad, rfl, _, hc, _⟩ := (h.to hext).at_ j hlt
      go_wp2_with fail
      refine (Hask.out wr l[j] hext (List.getElem_mem _)).mono ?_
      rintro e w1 ⟨rfl, hb⟩
      have hext1 := Ext.tr hext hb
      go_wp2_with fail
      · have hz : p l[j] = true := by assumption
        go_ret
        exact ⟨ret_int (idx_found hlt hno hz).symm, hext1⟩
      · have hz : p l[j] = false := by assumption
        go_roundw
        case rel => exact ⟨j + 1, by omega, by go_num, any_on hlt hno hz, hext1⟩
        case measure => simp [intOf]; omega
    · go_wp2_with fail
      go_ret
      exact ⟨ret_int (idx_none (any_end hno hlt)).symm, hext⟩

set_option maxHeartbeats 400000 in
theorem containsFuncInt_ok (w : World) (A : Option Addr) (c : Nat) (l : List Int) (h : RInts w A l) (k : Nat) (caps : Array Value) (p : Int → Bool) (hcf : ∀ xs W, (callFunc k xs).run Try.prog W = .ok (.enter k xs) W) (ask : AskInt w k caps p l) :
    Calls Try.prog 45 #[.slice A l.length c, .func (.func k) #[] caps] w fun e w' => e = .returned (.bool (l.any p)) ∧ Ext w w' := by
  have Hask := hid ask; clear ask
  go_enter Try.func45, Try.ntmps45
  go_wp2_with fail
  refine (indexFuncInt_ok w A c l h k caps p hcf Hask.out).mono ?_
  rintro e w1 ⟨rfl, hb⟩
  go_wp2_with fail
  go_ret
  exact ⟨ret_bool (idx_nonneg p l), hb⟩

/-- Are numbers in a range? -/
def inB (lo hi : Int) (l : List Int) : Bool := l.all fun x => decide (lo ≤ x) && decide (x ≤ hi)

set_option maxHeartbeats 400000 in
theorem within_ok (w : World) (A : Option Addr) (c : Nat) (l : List Int) (h : RInts w A l) (lo hi : Int) :
    Calls Try.prog 35 #[.slice A l.length c, .int .i64 lo, .int .i64 hi] w fun e w' => e = .returned (.bool (inB lo hi l)) ∧ Ext w w' := by
  have hn : ∀ W, Ext ((w.alloc (.cells #[.int .i64 lo] 3)).alloc (.cells #[.int .i64 hi] 3)) W → W.cell? ⟨w.heap.size, 0, none⟩ = some (.int .i64 lo) ∧ W.cell? ⟨w.heap.size + 1, 0, none⟩ = some (.int .i64 hi) :=
    fun W hW => ⟨cellE hW (by simp [go_sem]) (by simp; omega), cellE hW (by simp [go_sem]) (by simp)⟩
  have H := hid hn; clear hn
  go_enter Try.func35, Try.ntmps35
  go_wp2_with fail
  refine (containsFuncInt_ok _ A c l (h.to (((Ext.rfl' w).al _).al _)) 46 _ (fun x => decide (x < lo) || decide (hi < x)) (fun _ _ => by kernel_rfl) (fun W x hW _ => ?_)).mono ?_
  · exact (within1_ok W x lo hi _ _ (H.out W hW).1 (H.out W hW).2).mono fun e W' ⟨he, hw⟩ => ⟨he, by subst hw; exact Ext.rfl' _⟩
  rintro e w1 ⟨rfl, hb⟩
  go_wp2_with fail
  go_ret
  refine ⟨ret_bool ?_, Ext.tr (((Ext.rfl' w).al _).al _) hb⟩
  unfold inB
  rw [List.not_any_eq_all_not]
  congr 1
  funext x
  simp [Bool.not_or, ← decide_not]
end Go.Proofs.Ytjinbjkbchnhpaa
