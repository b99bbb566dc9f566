/- Sets of symbols as 64-bit numbers. -/
import Derived.Test.YtjinbjkbchnhpaaLib
import Derived.IntWalk
namespace Go.Proofs.Ytjinbjkbchnhpaa
open Go.RowKit

def bv (x : Int) : BitVec 64 := BitVec.ofInt 64 x
theorem i64_wrap_nat (v : BitVec 64) : IntKind.i64.wrap v.toNat = v.toInt := by
  rw [IntKind.wrap_i64, BitVec.toInt_eq_toNat_cond]
  have := v.isLt
  split <;> omega
theorem wrap64_nat (v : BitVec 64) : wrap64 v.toNat = v.toInt := by rw [← IntWalk.i64_left, i64_wrap_nat]
theorem u64_wrap_nat (v : BitVec 64) : IntKind.u64.wrap v.toNat = v.toNat := by
  have := v.isLt
  exact IntWalk.u64_in _ ⟨by omega, by omega⟩
theorem bits_and (x y : Int) : bits .and .i64 x y = (bv x &&& bv y).toInt := i64_wrap_nat _
theorem bits_or (x y : Int) : bits .or .i64 x y = (bv x ||| bv y).toInt := i64_wrap_nat _
theorem bits_xor (x y : Int) : bits .xor .i64 x y = (bv x ^^^ bv y).toInt := i64_wrap_nat _
theorem bits_andNot (x y : Int) : bits .andNot .i64 x y = (bv x &&& ~~~ bv y).toInt := i64_wrap_nat _
theorem ubits_and (x y : Int) : bits .and .u64 x y = (bv x &&& bv y).toNat := u64_wrap_nat _
theorem ubits_or (x y : Int) : bits .or .u64 x y = (bv x ||| bv y).toNat := u64_wrap_nat _
theorem ubits_xor (x y : Int) : bits .xor .u64 x y = (bv x ^^^ bv y).toNat := u64_wrap_nat _
theorem ubits_andNot (x y : Int) : bits .andNot .u64 x y = (bv x &&& ~~~ bv y).toNat := u64_wrap_nat _
theorem bv_toInt (v : BitVec 64) : bv v.toInt = v := BitVec.ofInt_toInt
theorem bv_toNat (v : BitVec 64) : bv (v.toNat : Int) = v := by unfold bv; rw [BitVec.ofInt_natCast]; simp
theorem toInt_bv {x : Int} (h : I64 x) : (bv x).toInt = x := by
  unfold bv
  rw [BitVec.toInt_ofInt]
  exact Int.bmod_eq_of_le (by have := h.1; omega) (by have := h.2; omega)
theorem i64_toInt (v : BitVec 64) : I64 v.toInt := by
  have h1 := BitVec.le_toInt v
  have h2 := BitVec.toInt_le (x := v)
  exact ⟨by simpa using h1, by simp at h2; omega⟩
theorem bv_inj {x y : Int} (hx : I64 x) (hy : I64 y) (h : bv x = bv y) : x = y := by rw [← toInt_bv hx, ← toInt_bv hy, h]
theorem bv_uwrap (x : Int) : bv (IntKind.u64.wrap x) = bv x := by
  unfold bv
  rw [IntKind.wrap_u64]
  apply BitVec.eq_of_toInt_eq
  rw [BitVec.toInt_ofInt, BitVec.toInt_ofInt]
  exact Int.emod_bmod x (2 ^ 64)
theorem toInt_inj {u v : BitVec 64} (h : u.toInt = v.toInt) : u = v := BitVec.eq_of_toInt_eq h
theorem bv_pow (n : Nat) : bv (2 ^ n) = BitVec.twoPow 64 n := by
  unfold bv
  apply BitVec.eq_of_toNat_eq
  rw [BitVec.toNat_twoPow]
  have : (2 : Int) ^ n = ((2 ^ n : Nat) : Int) := by simp
  rw [this, BitVec.ofInt_natCast]
  simp
theorem bv_zero : bv 0 = 0#64 := rfl
/-- Symbol k is in the set. -/
def hasS (x : Int) (k : Nat) : Bool := (bv x).getLsbD k
theorem hasS_toInt (v : BitVec 64) (k : Nat) : hasS v.toInt k = v.getLsbD k := by unfold hasS; rw [bv_toInt]
theorem zero_iff {x : Int} (h : I64 x) : x = 0 ↔ bv x = 0#64 := ⟨fun e => by rw [e]; rfl, fun e => bv_inj h ⟨by decide, by decide⟩ (e.trans bv_zero.symm)⟩
theorem bv_mod2 (y : Int) : (bv y).getLsbD 0 = decide (y % 2 = 1) := by
  unfold bv
  rw [BitVec.getLsbD_eq_getElem (by decide), BitVec.getElem_eq_testBit_toNat, BitVec.toNat_ofInt, Nat.testBit_zero]
  congr 1
  simp only [eq_iff_iff]
  omega
theorem hasS_shift (x : Int) (k : Nat) (hk : k < 64) : hasS x k = decide (x / 2 ^ k % 2 = 1) := by
  unfold hasS bv
  rw [BitVec.getLsbD_eq_getElem hk, BitVec.getElem_eq_testBit_toNat, BitVec.toNat_ofInt, Nat.testBit_eq_decide_div_mod_eq]
  congr 1
  simp only [eq_iff_iff]
  have h1 : ((x % ((2 ^ 64 : Nat) : Int)).toNat : Int) = x % ((2 ^ 64 : Nat) : Int) := Int.toNat_of_nonneg (Int.emod_nonneg _ (by decide))
  have h2 : (2 ^ 64 : Int) = 2 ^ k * (2 * 2 ^ (63 - k)) := by
    rw [← Int.pow_succ', ← Int.pow_add]; congr 1; omega
  have h3 : x % (2 ^ 64 : Int) / 2 ^ k % 2 = x / 2 ^ k % 2 := by
    have h5 : x % (2 ^ 64 : Int) = x + 2 ^ k * (-(2 * 2 ^ (63 - k) * (x / 2 ^ 64))) := by
      rw [Int.emod_def]
      generalize x / 2 ^ 64 = d
      rw [h2, Int.mul_neg, Int.mul_assoc]; omega
    rw [h5, Int.add_mul_ediv_left _ _ (Int.ne_of_gt (Int.pow_pos (by decide)))]
    generalize x / 2 ^ 64 = d
    rw [Int.mul_assoc]
    omega
  have h4 : (((x % ((2 ^ 64 : Nat) : Int)).toNat / 2 ^ k % 2 : Nat) : Int) = x / 2 ^ k % 2 := by
    rw [Int.natCast_emod, Int.natCast_ediv, h1]
    exact h3
  omega
theorem bits_shift_one (x : Int) (k : Nat) (hk : k < 64) : bits .and .i64 (x / 2 ^ k) 1 = if hasS x k then 1 else 0 := by
  rw [bits_and, hasS_shift x k hk, ← bv_mod2]
  have : bv 1 = BitVec.twoPow 64 0 := by decide
  rw [this, BitVec.and_twoPow]
  cases h : (bv (x / 2 ^ k)).getLsbD 0
  · simp
  · simp; decide
end Go.Proofs.Ytjinbjkbchnhpaa
