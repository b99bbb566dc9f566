/- Contracts: the first position, in both texts. -/
import Derived.Test.YtjinbjkbchnhpaaCg
import Derived.Test.YtjinbjkbchnhpaaCh
import Derived.Test.YtjinbjkbchnhpaaOwn
namespace Go.Proofs.Ytjinbjkbchnhpaa
open Go.RowKit

/-- All symbols of a problem. -/
abbrev fullS (q : Problem) : Int := 2 ^ q.symbols.toNat - 1
/-- The position in which each cell can have each symbol. -/
def startL (q : Problem) : List Int := if validB q then List.replicate q.cells.toNat (fullS q) else []
theorem valid_bd {q : Problem} (h : validB q = true) : 1 ≤ q.cells ∧ q.cells ≤ 256 ∧ 1 ≤ q.symbols ∧ q.symbols ≤ 16 := by
  simp only [validB, Bool.and_eq_true, decide_eq_true_eq] at h; omega
set_option maxHeartbeats 1000000 in
theorem pStart_ok (w : World) (q : Problem) (p : PPtr) (h : RProb w q p) :
    Calls Try.prog 10 #[probV q p] w fun e w' => ∃ A c, e = .returned (.tuple #[.slice A (startL q).length c, .int .i64 (validE q)]) ∧ RInts w' A (startL q) ∧ Ext w w' := by
  have x0 := (Ext.rfl' w).al (probO q p)
  cases hv : validB q
  · have he : (validE q != 0) = true := by simp [validE, hv]
    have hs : startL q = [] := by simp [startL, hv]
    have Hs := hid hs; clear hs
    clear hv
    go_enter Try.func10, Try.ntmps10
    go_wp2_with (go_at_call 25; refine (pvalid_ok _ q p (h.to x0)).mono ?_; rintro e w1 ⟨rfl, hb1⟩; obtain ⟨f0, f1, f2, f3, f4⟩ := probBox hb1 rfl)
    go_ret2
    rw [Hs.out]
    exact ⟨none, 0, rfl, RInts.nil _ _, x0.tr hb1⟩
  · have he : validE q = 0 := by simp [validE, hv]
    have hd := valid_bd hv
    have hn : (q.cells.toNat : Int) = q.cells := by omega
    obtain ⟨n, hn⟩ : ∃ n : Nat, n = q.cells.toNat := ⟨_, rfl⟩
    have hs : startL q = List.replicate n (fullS q) := by simp [startL, hv, hn]
    have Hs := hid hs; clear hs
    have hp := pow_bd q.symbols (by omega) (by omega)
    have hM : I64 (fullS q) := by unfold fullS; exact ⟨by omega, by omega⟩
    have HM := hid hM; clear hM
    clear hv
    go_enter Try.func10, Try.ntmps10
    go_wp2_with (go_at_call 25; refine (pvalid_ok _ q p (h.to x0)).mono ?_; rintro e w1 ⟨rfl, hb1⟩; obtain ⟨f0, f1, f2, f3, f4⟩ := probBox hb1 rfl)
    have x1 := x0.tr hb1
    clear f0 f1 f2 f3 f4
    go_loopw [2, 12] (fun v i wr => ∃ (k : Nat) (A : Option Addr) (c : Nat), k ≤ n ∧ i = .int .i64 k ∧ v = .slice A k c ∧ OwnI wr w1.heap.size (.slice A k c) (List.replicate k (fullS q)) ∧ Ext w1 wr) (fun _ i _ => n - (intOf i).toNat)
    case atStart => exact ⟨0, none, 0, Nat.zero_le _, rfl, rfl, OwnI.nil _ _, Ext.rfl' _⟩
    case round =>
      obtain ⟨k, A, c, hk, rfl, rfl, hown, hx⟩ := hrel
      obtain ⟨f0, f1, f2, f3, f4⟩ := probBox (hb1.tr hx) rfl
      by_cases hlt : k < n
      · go_wp2_with (at_builtin; refine app_one w1 hx rfl _ _ rfl A k c _ rfl hown _ (fullS q) rfl HM.out (by omega) ?_; intro A' c' w2 hown2 hx2 _)
        go_roundw
        case rel => exact ⟨k + 1, A', c', by omega, by go_num, rfl, hown2.as (by simp) (by rw [List.replicate_succ']), hx2⟩
        case measure => simp [intOf]; omega
      · go_wp2_with fail
        go_ret2
        obtain rfl : k = n := by omega
        rw [Hs.out]
        exact ⟨A, c, by simp [he], hown.ints, x1.tr hx⟩
end Go.Proofs.Ytjinbjkbchnhpaa
