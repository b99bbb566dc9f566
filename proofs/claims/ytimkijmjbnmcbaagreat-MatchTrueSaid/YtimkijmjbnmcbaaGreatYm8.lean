/- Contracts: names and their bytes. Contracts: whether a text is a name. Contracts: lists of names, and indices. Contracts: different indices; valid conditions. Contracts: small functions of the reference on lists of integers. Contracts: valid conditions. -/
import Derived.Lib.Strings
import Derived.Lib.Slices
import Derived.Lib.Walk
import Derived.Lib.Bytealg
import Derived.Test.YtimkijmjbnmcbaaGreatYm7
import Derived.Deep.QuietTactic
import Derived.BigQuiet
namespace Go.Proofs.YtimkijmjbnmcbaaGreat
open Go.RowKit

set_option maxHeartbeats 1000000 in
set_option maxRecDepth 100000 in
theorem slIB_ok (s : ByteArray) (c : Int) (w : World) :
    Calls Tryz.prog 107 #[.string s, .int .u8 c] w fun e w' => e = .returned (.int .i64 (Lib.indexByte s.data.toList c.toNat.toUInt8)) ∧ w' = w := by
  go_enter Tryz.func107, Tryz.ntmps107
  go_wp2
  rw [run_callFunc_extern Tryz.func108 (by kernel_rfl) (by kernel_rfl) (by kernel_rfl) (e := Extern.BytealgIndexByte.indexByte) (by kernel_rfl), Lib.run_indexByteString]
  simp only [Result.andThen]
  rw [Oper.upon_value]
  go_wp2
  go_ret
  exact ⟨rfl, rfl⟩
set_option maxHeartbeats 1000000 in
theorem strIB_ok (s : ByteArray) (c : Int) (w : World) :
    Calls Tryz.prog 105 #[.string s, .int .u8 c] w fun e w' => e = .returned (.int .i64 (Lib.indexByte s.data.toList c.toNat.toUInt8)) ∧ w' = w := by
  go_enter Tryz.func105, Tryz.ntmps105
  go_wp2_with (go_at_call 107; refine (slIB_ok _ _ _).mono ?_; rintro e w' ⟨rfl, rfl⟩)
  go_ret
  exact ⟨rfl, rfl⟩

def letterB (c : Int) : Bool := (decide (97 ≤ c) && decide (c ≤ 122)) || (decide (65 ≤ c) && decide (c ≤ 90))
def digitB (c : Int) : Bool := decide (48 ≤ c) && decide (c ≤ 57)
def partB (c : Int) : Bool := letterB c || digitB c || c == 95
/-- Which class a byte is of, as far as names ask. -/
def ClassOf (c : Int) (e : Ending) : Prop := ∃ n, e = .returned (.int .i64 n) ∧ (n == 2) = letterB c ∧ (n == 3) = digitB c ∧ (n == 5) = (c == 95)
set_option maxHeartbeats 1000000 in
theorem class_ok (w : World) (c : Int) : Calls Tryz.prog 97 #[.int .u8 c] w fun e w' => ClassOf c e ∧ w' = w := by
  go_enter Tryz.func97, Tryz.ntmps97
  go_wp2_with (go_at_call 105; refine (strIB_ok _ _ _).mono ?_; rintro e w' ⟨rfl, rfl⟩)
  all_goals (go_ret; exact ⟨⟨_, rfl, by grind [letterB], by grind [digitB], by grind⟩, rfl⟩)
set_option maxHeartbeats 1000000 in
theorem letter10_ok (w : World) (c : Int) : Calls Tryz.prog 80 #[.int .u8 c] w fun e w' => e = .returned (.bool (letterB c)) ∧ w' = w := by
  go_enter Tryz.func80, Tryz.ntmps80
  go_wp2
  all_goals (go_ret; exact ⟨ret_bool (by grind [letterB]), rfl⟩)
set_option maxHeartbeats 1000000 in
theorem figure10_ok (w : World) (c : Int) : Calls Tryz.prog 99 #[.int .u8 c] w fun e w' => e = .returned (.bool (digitB c)) ∧ w' = w := by
  go_enter Tryz.func99, Tryz.ntmps99
  go_wp2
  all_goals (go_ret; exact ⟨ret_bool (by grind [digitB]), rfl⟩)
set_option maxHeartbeats 1000000 in
theorem part10_ok (w : World) (c : Int) : Calls Tryz.prog 81 #[.int .u8 c] w fun e w' => e = .returned (.bool (partB c)) ∧ w' = w := by
  go_enter Tryz.func81, Tryz.ntmps81
  go_wp2_with (first | (go_at_call 80; refine (letter10_ok _ _).mono ?_; rintro e w' ⟨rfl, rfl⟩) | (go_at_call 99; refine (figure10_ok _ _).mono ?_; rintro e w' ⟨rfl, rfl⟩))
  all_goals (go_ret; exact ⟨ret_bool (by grind [partB]), rfl⟩)
end Go.Proofs.YtimkijmjbnmcbaaGreat
namespace Go.Proofs.YtimkijmjbnmcbaaGreat
open Go.RowKit
/-- The i-th byte of a text. -/
def byt (s : ByteArray) (i : Nat) : Int := if h : i < s.size then (s[i].toNat : Int) else 0
theorem byt_eq {s : ByteArray} {i : Nat} (h : i < s.size) : byt s i = (s[i].toNat : Int) := by simp [byt, h]
def nameB (s : ByteArray) : Bool := decide (1 ≤ s.size) && decide (s.size ≤ 32) && letterB (byt s 0) && (List.range s.size).all fun i => partB (byt s i)
theorem nameB_bad {s : ByteArray} {k : Nat} (hk : k < s.size) (h : partB (s[k].toNat : Int) = false) : nameB s = false := by
  unfold nameB
  rw [rall_bad hk (by rw [byt_eq hk]; exact h), Bool.and_false]
theorem nameB_first {s : ByteArray} (hk : 0 < s.size) (h : letterB (s[0].toNat : Int) = false) : nameB s = false := by
  unfold nameB
  rw [byt_eq hk, h]; simp
theorem nameB_size {s : ByteArray} (h : s.size < 1 ∨ 32 < s.size) : nameB s = false := by
  unfold nameB
  rcases h with h | h
  · have : decide (1 ≤ s.size) = false := decide_eq_false (by omega)
    simp [this]
  · have : decide (s.size ≤ 32) = false := decide_eq_false (by omega)
    simp [this]
theorem nameB_good {s : ByteArray} (h1 : 0 < s.size) (h2 : s.size ≤ 32) (h3 : letterB (s[0].toNat : Int) = true) (h4 : (List.range s.size).all (fun i => partB (byt s i)) = true) : nameB s = true := by
  unfold nameB
  rw [byt_eq h1, h3, h4, decide_eq_true (show 1 ≤ s.size by omega), decide_eq_true h2]; rfl
set_option maxHeartbeats 1000000 in
theorem name10_ok (w : World) (s : ByteArray) (hs : s.size ≤ maxLen) : Calls Tryz.prog 43 #[.string s] w fun e w' => e = .returned (.bool (nameB s)) ∧ w' = w := by
  have hm : s.size ≤ 9223372036854775807 := Nat.le_trans hs (by decide)
  by_cases h0 : s.size < 1
  · go_enter Tryz.func43, Tryz.ntmps43
    go_wp2_with fail
    go_ret
    exact ⟨ret_bool (nameB_size (.inl h0)).symm, rfl⟩
  by_cases h1 : 32 < s.size
  · go_enter Tryz.func43, Tryz.ntmps43
    go_wp2_with fail
    go_ret
    exact ⟨ret_bool (nameB_size (.inr h1)).symm, rfl⟩
  have hp : 0 < s.size := by omega
  cases hL : letterB (s[0].toNat : Int)
  · go_enter Tryz.func43, Tryz.ntmps43
    go_wp2_with (go_at_call 80; refine (letter10_ok _ _).mono ?_; rintro e w' ⟨rfl, rfl⟩)
    go_ret
    exact ⟨ret_bool (nameB_first hp hL).symm, rfl⟩
  go_enter Tryz.func43, Tryz.ntmps43
  go_wp2_with (go_at_call 80; refine (letter10_ok _ _).mono ?_; rintro e w' ⟨rfl, rfl⟩)
  go_loop [3] (fun i => ∃ k : Nat, k ≤ s.size ∧ i = .int .i64 k ∧ Hid ((List.range k).all (fun i => partB (byt s i)) = true)) (fun i => s.size - (intOf i).toNat)
  case atStart => exact ⟨0, Nat.zero_le _, rfl, rfl⟩
  case round =>
    obtain ⟨k, hk, rfl, hno⟩ := hrel
    by_cases hlt : k < s.size
    · cases hb : partB (s[k].toNat : Int)
      · go_wp2_with (go_at_call 81; refine (part10_ok _ _).mono ?_; rintro e w' ⟨rfl, rfl⟩)
        go_ret
        exact ⟨ret_bool (nameB_bad hlt hb).symm, rfl⟩
      · go_wp2_with (go_at_call 81; refine (part10_ok _ _).mono ?_; rintro e w' ⟨rfl, rfl⟩)
        go_round
        case rel => exact ⟨k + 1, by omega, by go_num, rall_on hno (by rw [byt_eq hlt]; exact hb)⟩
        case measure => simp [intOf]; omega
    · go_wp2_with fail
      go_ret
      exact ⟨ret_bool (nameB_good hp (by omega) hL (rall_end hno hk hlt)).symm, rfl⟩
theorem ClassOf.no {c : Int} {e : Ending} (h : ClassOf c e) (hb : partB c = false) : ∃ n, e = .returned (.int .i64 n) ∧ (n != 2) = true ∧ (n != 3) = true ∧ (n != 5) = true := by
  obtain ⟨n, rfl, g1, g2, g3⟩ := h
  simp only [partB, Bool.or_eq_false_iff] at hb
  obtain ⟨⟨b1, b2⟩, b3⟩ := hb
  exact ⟨n, rfl, by rw [bne, g1, b1]; rfl, by rw [bne, g2, b2]; rfl, by rw [bne, g3, b3]; rfl⟩
theorem toList_empty (s : ByteArray) : s.toList.isEmpty = decide (s.size < 1) := by
  have e : s.toList = s.data.toList := ByteArray.toList_eq s
  rw [e, Bool.eq_iff_iff, List.isEmpty_iff, decide_eq_true_iff, ← List.length_eq_zero_iff, Array.length_toList]
  show s.size = 0 ↔ _
  omega
set_option maxHeartbeats 1000000 in
theorem lexName_ok (w : World) (s : ByteArray) (hs : s.size ≤ maxLen) : Calls Tryz.prog 73 #[.string s] w fun e w' => e = .returned (.bool (nameB s)) ∧ w' = w := by
  have hm : s.size ≤ 9223372036854775807 := Nat.le_trans hs (by decide)
  have hE := toList_empty s
  by_cases h0 : s.size < 1
  · rw [decide_eq_true h0] at hE
    have hE2 : s.toList = [] := List.isEmpty_iff.1 hE
    go_enter Tryz.func73, Tryz.ntmps73
    go_wp2_with fail
    go_ret
    exact ⟨ret_bool (nameB_size (.inl h0)).symm, rfl⟩
  rw [decide_eq_false h0] at hE
  have hE2 : ¬ s.toList = [] := fun h => by rw [h] at hE; cases hE
  by_cases h1 : 32 < s.size
  · go_enter Tryz.func73, Tryz.ntmps73
    go_wp2_with fail
    all_goals first
      | (go_ret; exact ⟨ret_bool (nameB_size (.inr h1)).symm, rfl⟩)
      | (exfalso; simp_all; done)
      | (exfalso; omega)
  have hp : 0 < s.size := by omega
  cases hL : letterB (s[0].toNat : Int)
  · go_enter Tryz.func73, Tryz.ntmps73
    go_wp2_with (go_at_call 97; refine (class_ok _ _).mono ?_; rintro e w' ⟨⟨n, rfl, g1, g2, g3⟩, rfl⟩; rw [hL] at g1; have g4 : (n != 2) = true := by simp [bne, g1])
    all_goals first
      | (go_ret; exact ⟨ret_bool (nameB_first hp hL).symm, rfl⟩)
      | (exfalso; simp_all; done)
      | (exfalso; omega)
  go_enter Tryz.func73, Tryz.ntmps73
  go_wp2_with (go_at_call 97; refine (class_ok _ _).mono ?_; rintro e w' ⟨⟨n, rfl, g1, g2, g3⟩, rfl⟩; rw [hL] at g1; have g4 : (n != 2) = false := by simp [bne, g1])
  all_goals try (exfalso; simp_all; done)
  go_loop [3, 4, 20] (fun _ _ i => ∃ k : Nat, k ≤ s.size ∧ i = .int .i64 k ∧ Hid ((List.range k).all (fun i => partB (byt s i)) = true)) (fun _ _ i => s.size - (intOf i).toNat)
  case atStart => exact ⟨0, Nat.zero_le _, rfl, rfl⟩
  case round =>
    obtain ⟨k, hk, rfl, hno⟩ := hrel
    by_cases hlt : k < s.size
    · have HL := hid hL; clear hL hE hE2 g1 g2 g3 g4
      cases hb : partB (s[k].toNat : Int)
      · go_wp2_with (go_at_call 97; refine (class_ok _ _).mono ?_; rintro e w' ⟨hc, rfl⟩; obtain ⟨n, rfl, g4, g5, g6⟩ := hc.no hb)
        all_goals first
          | (go_ret; exact ⟨ret_bool (nameB_bad hlt hb).symm, rfl⟩)
          | (exfalso; simp_all; done)
      · go_wp2_with (go_at_call 97; refine (class_ok _ _).mono ?_; rintro e w' ⟨⟨n, rfl, g1, g2, g3⟩, rfl⟩)
        all_goals first
          | (go_round
             case rel => exact ⟨k + 1, by omega, by go_num, rall_on hno (by rw [byt_eq hlt]; exact hb)⟩
             case measure => simp [intOf]; omega)
          | (exfalso; simp_all [partB]; done)
          | (exfalso; grind [partB])
    · go_wp2_with fail
      go_ret
      exact ⟨ret_bool (nameB_good hp (by omega) hL (rall_end hno hk hlt)).symm, rfl⟩
end Go.Proofs.YtimkijmjbnmcbaaGreat
namespace Go.Proofs.YtimkijmjbnmcbaaGreat
open Go.RowKit
/-- The first place of what is there is here: nothing before is like it. -/
theorem idx_here {α : Type} {p : α → Bool} {l : List α} {k : Nat} (hk : k < l.length) (hp : p l[k] = true) : (idx p l != (k : Int)) = (l.take k).any p := by
  cases h : (l.take k).any p
  · rw [idx_found hk h hp]; simp
  · obtain ⟨x, hx, hpx⟩ := List.any_eq_true.1 h
    obtain ⟨j, hj, e⟩ := List.mem_take_iff_getElem.1 hx
    simp only [bne_iff_ne, ne_eq]
    intro hi
    unfold idx at hi
    cases hf : l.findIdx? p with
    | none => rw [hf] at hi; simp at hi
    | some i =>
      rw [hf] at hi
      simp only at hi
      have := (List.findIdx?_eq_some_iff_getElem.1 hf).2.2 j (by omega)
      rw [e] at this
      exact this hpx
def same (a b : ByteArray) : Bool := a.toList == b.toList
theorem same_self (a : ByteArray) : same a a = true := by simp [same]
/-- The k-th name stands before. -/
def metS (l : List ByteArray) (k : Nat) : Bool := (l.take k).any (same (txt l k))
set_option maxHeartbeats 400000 in
theorem indexStr_ok (w : World) (A : Option Addr) (c : Nat) (l : List ByteArray) (h : RStrs w A l) (n : ByteArray) :
    Calls Tryz.prog 98 #[.slice A l.length c, .string n] w fun e w' => e = .returned (.int .i64 (idx (same n) l)) ∧ w = w' := by
  have hl := h.len
  go_enter Tryz.func98, Tryz.ntmps98
  go_wp2_with fail
  go_loop [8] (fun i => ∃ k : Nat, k ≤ l.length ∧ i = .int .i64 k ∧ Hid ((l.take k).any (same n) = false)) (fun i => l.length - (intOf i).toNat)
  case atStart => exact ⟨0, Nat.zero_le _, rfl, rfl⟩
  case round =>
    obtain ⟨k, hk, rfl, hno⟩ := hrel
    by_cases hlt : k < l.length
    · obtain ⟨ad, rfl, _, hc0, _⟩ := h.at_ (by omega)
      have hc := hc0 k hlt
      rw [txt_eq hlt] at hc
      clear hc0
      go_wp2_with fail
      · have hz : (n.toList == l[k].toList) = true := by assumption
        go_ret
        exact ⟨ret_int (idx_found hlt hno hz).symm, rfl⟩
      · have hz : (n.toList == l[k].toList) = false := by assumption
        go_round
        case rel => exact ⟨k + 1, by omega, by go_num, any_on hlt hno hz⟩
        case measure => simp [intOf]; omega
    · go_wp2_with fail
      go_ret
      exact ⟨ret_int (idx_none (any_end hno hlt)).symm, rfl⟩
set_option maxHeartbeats 400000 in
theorem index30_ok (w : World) (A : Option Addr) (c : Nat) (l : List ByteArray) (h : RStrs w A l) (n : ByteArray) :
    Calls Tryz.prog 82 #[.slice A l.length c, .string n] w fun e w' => e = .returned (.int .i64 (idx (same n) l)) ∧ w = w' := by
  have hl := h.len
  go_enter Tryz.func82, Tryz.ntmps82
  go_wp2_with fail
  go_loop [5] (fun i => ∃ k : Nat, k ≤ l.length ∧ i = .int .i64 k ∧ Hid ((l.take k).any (same n) = false)) (fun i => l.length - (intOf i).toNat)
  case atStart => exact ⟨0, Nat.zero_le _, rfl, rfl⟩
  case round =>
    obtain ⟨k, hk, rfl, hno⟩ := hrel
    by_cases hlt : k < l.length
    · obtain ⟨ad, rfl, _, hc0, _⟩ := h.at_ (by omega)
      have hc := hc0 k hlt
      rw [txt_eq hlt] at hc
      clear hc0
      go_wp2_with fail
      · have hz : (l[k].toList == n.toList) = true := by assumption
        go_ret
        exact ⟨ret_int (idx_found hlt hno (by rw [same, Bool.beq_comm]; exact hz)).symm, rfl⟩
      · have hz : (l[k].toList == n.toList) = false := by assumption
        go_round
        case rel => exact ⟨k + 1, by omega, by go_num, any_on hlt hno (by rw [same, Bool.beq_comm]; exact hz)⟩
        case measure => simp [intOf]; omega
    · go_wp2_with fail
      go_ret
      exact ⟨ret_int (idx_none (any_end hno hlt)).symm, rfl⟩
def nameAt (l : List ByteArray) (i : Nat) : Bool := nameB (txt l i) && !(metS l i)
def namesB (l : List ByteArray) (most : Int) : Bool := (List.range l.length).all (nameAt l) && decide (1 ≤ (l.length : Int)) && decide ((l.length : Int) ≤ most)
theorem namesB_bad {l : List ByteArray} {most : Int} {k : Nat} (hk : k < l.length) (h : nameAt l k = false) : namesB l most = false := by
  unfold namesB; rw [rall_bad hk h]; rfl
theorem namesB_end {l : List ByteArray} {most : Int} (h : (List.range l.length).all (nameAt l) = true) : namesB l most = (decide (1 ≤ (l.length : Int)) && decide ((l.length : Int) ≤ most)) := by
  unfold namesB; rw [h]; rfl
theorem name_here {l : List ByteArray} {k : Nat} (hk : k < l.length) : (idx (same (txt l k)) l != (k : Int)) = metS l k :=
  idx_here hk (by rw [← txt_eq hk]; exact same_self _)
set_option maxHeartbeats 1000000 in
theorem lmNames_ok (w : World) (A : Option Addr) (c : Nat) (l : List ByteArray) (h : RStrs w A l) (most : Int) :
    Calls Tryz.prog 74 #[.slice A l.length c, .int .i64 most] w fun e w' => e = .returned (.bool (namesB l most)) ∧ w = w' := by
  have hl := h.len
  go_enter Tryz.func74, Tryz.ntmps74
  go_wp2_with fail
  go_loop [5, 6, 9] (fun _ _ i => ∃ k : Nat, k ≤ l.length ∧ i = .int .i64 k ∧ Hid ((List.range k).all (nameAt l) = true)) (fun _ _ i => l.length - (intOf i).toNat)
  case atStart => exact ⟨0, Nat.zero_le _, rfl, rfl⟩
  case round =>
    obtain ⟨k, hk, rfl, hno⟩ := hrel
    by_cases hlt : k < l.length
    · obtain ⟨ad, hA, _, hc0, hs0⟩ := h.at_ (by omega)
      have hc := hc0 k hlt
      have hs := hs0 k hlt
      have hh := name_here hlt
      clear hc0 hs0
      subst hA
      cases hN : nameB (txt l k)
      · go_wp2_with (go_at_call 73; refine (lexName_ok _ _ hs).mono ?_; rintro e w' ⟨rfl, rfl⟩)
        go_ret
        exact ⟨ret_bool (namesB_bad hlt (by rw [nameAt, hN]; rfl)).symm, rfl⟩
      cases hM : metS l k
      · rw [hM] at hh
        go_wp2_with (first | (go_at_call 73; refine (lexName_ok _ _ hs).mono ?_; rintro e w' ⟨rfl, rfl⟩) | (go_at_call 98; refine (indexStr_ok _ _ _ _ h _).mono ?_; rintro e w' ⟨rfl, rfl⟩))
        go_round
        case rel => exact ⟨k + 1, by omega, by go_num, rall_on hno (by rw [nameAt, hN, hM]; rfl)⟩
        case measure => simp [intOf]; omega
      · rw [hM] at hh
        go_wp2_with (first | (go_at_call 73; refine (lexName_ok _ _ hs).mono ?_; rintro e w' ⟨rfl, rfl⟩) | (go_at_call 98; refine (indexStr_ok _ _ _ _ h _).mono ?_; rintro e w' ⟨rfl, rfl⟩))
        go_ret
        exact ⟨ret_bool (namesB_bad hlt (by rw [nameAt, hN, hM]; rfl)).symm, rfl⟩
    · have he := namesB_end (most := most) (rall_end hno hk hlt)
      go_wp2_with fail
      all_goals (go_ret; exact ⟨ret_bool (by first | rfl | grind), rfl⟩)
set_option maxHeartbeats 1000000 in
theorem names30_ok (w : World) (A : Option Addr) (c : Nat) (l : List ByteArray) (h : RStrs w A l) (most : Int) :
    Calls Tryz.prog 44 #[.slice A l.length c, .int .i64 most] w fun e w' => e = .returned (.bool (namesB l most)) ∧ w = w' := by
  have hl := h.len
  go_enter Tryz.func44, Tryz.ntmps44
  go_wp2_with fail
  go_loop [5] (fun i => ∃ k : Nat, k ≤ l.length ∧ i = .int .i64 k ∧ Hid ((List.range k).all (nameAt l) = true)) (fun i => l.length - (intOf i).toNat)
  case atStart => exact ⟨0, Nat.zero_le _, rfl, rfl⟩
  case round =>
    obtain ⟨k, hk, rfl, hno⟩ := hrel
    by_cases hlt : k < l.length
    · obtain ⟨ad, hA, _, hc0, hs0⟩ := h.at_ (by omega)
      have hc := hc0 k hlt
      have hs := hs0 k hlt
      have hh := name_here hlt
      clear hc0 hs0
      subst hA
      cases hN : nameB (txt l k)
      · go_wp2_with (go_at_call 43; refine (name10_ok _ _ hs).mono ?_; rintro e w' ⟨rfl, rfl⟩)
        go_ret
        exact ⟨ret_bool (namesB_bad hlt (by rw [nameAt, hN]; rfl)).symm, rfl⟩
      cases hM : metS l k
      · rw [hM] at hh
        go_wp2_with (first | (go_at_call 43; refine (name10_ok _ _ hs).mono ?_; rintro e w' ⟨rfl, rfl⟩) | (go_at_call 82; refine (index30_ok _ _ _ _ h _).mono ?_; rintro e w' ⟨rfl, rfl⟩))
        go_round
        case rel => exact ⟨k + 1, by omega, by go_num, rall_on hno (by rw [nameAt, hN, hM]; rfl)⟩
        case measure => simp [intOf]; omega
      · rw [hM] at hh
        go_wp2_with (first | (go_at_call 43; refine (name10_ok _ _ hs).mono ?_; rintro e w' ⟨rfl, rfl⟩) | (go_at_call 82; refine (index30_ok _ _ _ _ h _).mono ?_; rintro e w' ⟨rfl, rfl⟩))
        go_ret
        exact ⟨ret_bool (namesB_bad hlt (by rw [nameAt, hN, hM]; rfl)).symm, rfl⟩
    · have he := namesB_end (most := most) (rall_end hno hk hlt)
      go_wp2_with fail
      all_goals (go_ret; exact ⟨ret_bool (by first | rfl | grind), rfl⟩)
end Go.Proofs.YtimkijmjbnmcbaaGreat
namespace Go.Proofs.YtimkijmjbnmcbaaGreat
open Go.RowKit
theorem ntake (l : List Int) (p : Int → Bool) : ∀ k, k ≤ l.length → (l.take k).any p = (List.range k).any fun i => p (num l i)
  | 0, _ => by simp
  | k + 1, h => by
    rw [any_take l p k (by omega), ntake l p k (by omega), List.range_succ, List.any_append]
    simp only [List.any_cons, List.any_nil, Bool.or_false]
    rw [num_eq (by omega)]
theorem met_take {l : List Int} {k : Nat} (h : k ≤ l.length) : met l k = (l.take k).any (num l k == ·) := by
  rw [ntake l _ k h]
  unfold met
  congr 1
  funext i
  exact Bool.beq_comm
theorem num_here {l : List Int} {k : Nat} (hk : k < l.length) : (idx (num l k == ·) l != (k : Int)) = met l k := by
  rw [met_take (by omega)]
  exact idx_here hk (by rw [num_eq hk]; simp)
/-- The i-th number is an index, and stands there first. -/
def diffAt (l : List Int) (n : Int) (i : Nat) : Bool := decide (0 ≤ num l i) && decide (num l i < n) && !(met l i)
def diffB (l : List Int) (n : Int) : Bool := (List.range l.length).all (diffAt l n)
theorem diffB_bad {l : List Int} {n : Int} {k : Nat} (hk : k < l.length) (h : diffAt l n k = false) : diffB l n = false := rall_bad hk h
def indicesB (l : List Int) (n least : Int) : Bool := diffB l n && decide (least ≤ (l.length : Int))
theorem diffAt_out {l : List Int} {n : Int} {k : Nat} (h : num l k < 0 ∨ n ≤ num l k) : diffAt l n k = false := by
  unfold diffAt
  rcases h with h | h
  · rw [decide_eq_false (by omega : ¬ 0 ≤ num l k)]; rfl
  · rw [decide_eq_false (by omega : ¬ num l k < n), Bool.and_false]; rfl
theorem diffAt_in {l : List Int} {n : Int} {k : Nat} (h1 : 0 ≤ num l k) (h2 : num l k < n) : diffAt l n k = !(met l k) := by
  unfold diffAt
  rw [decide_eq_true h1, decide_eq_true h2]; rfl
set_option maxHeartbeats 1000000 in
theorem lmIdx_ok (w : World) (A : Option Addr) (c : Nat) (l : List Int) (h : RInts w A l) (n least : Int) :
    Calls Tryz.prog 75 #[.slice A l.length c, .int .i64 n, .int .i64 least] w fun e w' => e = .returned (.bool (indicesB l n least)) ∧ w = w' := by
  have hl := h.len
  go_enter Tryz.func75, Tryz.ntmps75
  go_wp2_with fail
  go_loop [7, 8, 11] (fun _ _ i => ∃ k : Nat, k ≤ l.length ∧ i = .int .i64 k ∧ Hid ((List.range k).all (diffAt l n) = true)) (fun _ _ i => l.length - (intOf i).toNat)
  case atStart => exact ⟨0, Nat.zero_le _, rfl, rfl⟩
  case round =>
    obtain ⟨k, hk, rfl, hno⟩ := hrel
    by_cases hlt : k < l.length
    · obtain ⟨ad, hA, _, hc0, _⟩ := h.num (by omega)
      have hc := hc0 k hlt
      have hh := num_here hlt
      clear hc0
      subst hA
      by_cases h1 : num l k < 0
      · go_wp2_with fail
        go_ret
        exact ⟨ret_bool (by unfold indicesB; rw [diffB_bad hlt (diffAt_out (.inl h1))]; rfl), rfl⟩
      by_cases h2 : n ≤ num l k
      · go_wp2_with fail
        go_ret
        exact ⟨ret_bool (by unfold indicesB; rw [diffB_bad hlt (diffAt_out (.inr h2))]; rfl), rfl⟩
      have hin := diffAt_in (l := l) (n := n) (k := k) (by omega) (by omega)
      cases hM : met l k
      · rw [hM] at hh hin
        have Hin := hid hin; clear hin hM
        go_wp2_with (go_at_call 88; refine (indexInt_ok _ _ _ _ h _).mono ?_; rintro e w' ⟨rfl, rfl⟩)
        go_round
        case rel => exact ⟨k + 1, by omega, by go_num, rall_on hno Hin.out⟩
        case measure => simp [intOf]; omega
      · rw [hM] at hh hin
        have Hin := hid hin; clear hin hM
        go_wp2_with (go_at_call 88; refine (indexInt_ok _ _ _ _ h _).mono ?_; rintro e w' ⟨rfl, rfl⟩)
        go_ret
        exact ⟨ret_bool (by unfold indicesB; rw [diffB_bad hlt Hin.out]; rfl), rfl⟩
    · have he : diffB l n = true := rall_end hno hk hlt
      go_wp2_with fail
      go_ret
      exact ⟨ret_bool (by unfold indicesB; rw [he]; rfl), rfl⟩
set_option maxHeartbeats 1000000 in
theorem diff30_ok (w : World) (A : Option Addr) (c : Nat) (l : List Int) (h : RInts w A l) (nn : Int) :
    Calls Tryz.prog 46 #[.slice A l.length c, .int .i64 nn] w fun e w' => e = .returned (.bool (diffB l nn)) ∧ ∃ n, w' = w.drewN n := by
  have hl := h.len
  go_enter Tryz.func46, Tryz.ntmps46
  go_wp2_with fail
  go_loopw [5] (fun i wr => ∃ k n : Nat, k ≤ l.length ∧ i = .int .i64 k ∧ Hid ((List.range k).all (diffAt l nn) = true) ∧ wr = w.drewN n) (fun i _ => l.length - (intOf i).toNat)
  case atStart => exact ⟨0, 0, Nat.zero_le _, rfl, rfl, rfl⟩
  case round =>
    obtain ⟨i, n, hi, rfl, hno, rfl⟩ := hrel
    by_cases hlt : i < l.length
    · obtain ⟨ad, rfl, _, hc, _⟩ := h.num (by omega)
      have hci := hc i hlt
      by_cases h1 : num l i < 0
      · go_wp2_with fail
        go_ret
        exact ⟨ret_bool (diffB_bad hlt (diffAt_out (.inl h1))).symm, n, rfl⟩
      by_cases h2 : nn ≤ num l i
      · go_wp2_with fail
        go_ret
        exact ⟨ret_bool (diffB_bad hlt (diffAt_out (.inr h2))).symm, n, rfl⟩
      have hin := diffAt_in (l := l) (n := nn) (k := i) (by omega) (by omega)
      have Hin := hid hin; clear hin
      go_wp2_with fail
      go_loopw [6] (fun i' wr => ∃ k m : Nat, k ≤ i ∧ i' = .int .i64 k ∧ Hid ((List.range k).all (fun k => !(num l k == num l i)) = true) ∧ wr = w.drewN m) (fun i' _ => i - (intOf i').toNat)
      case atStart => exact ⟨0, n, Nat.zero_le _, rfl, rfl, rfl⟩
      case round =>
        obtain ⟨k, m, hk, rfl, hno2, rfl⟩ := hrel
        by_cases hlt2 : k < i
        · have hkl : k < l.length := by omega
          have hck := hc k hkl
          go_wp2_with fail
          go_quiet (fail)
          go_wp2_with fail
          · have hz : (num l k == num l i) = true := by assumption
            go_ret
            exact ⟨ret_bool (diffB_bad hlt (by rw [Hin.out, met, List.not_any_eq_all_not]; exact rall_bad hlt2 (by rw [hz]; rfl))).symm, _, by first | rfl | exact World.drewN_drewN _ _ _⟩
          · have hz : (num l k == num l i) = false := by assumption
            go_roundw
            case rel => exact ⟨k + 1, _, by omega, by go_num, rall_on hno2 (by rw [hz]; rfl), by first | rfl | exact World.drewN_drewN _ _ _⟩
            case measure => simp [intOf]; omega
        · go_wp2_with fail
          go_roundw
          case rel => exact ⟨i + 1, m, by omega, by go_num, rall_on hno (by rw [Hin.out, met, List.not_any_eq_all_not]; exact rall_end hno2 hk hlt2), rfl⟩
          case measure => simp [intOf]; omega
    · go_wp2_with fail
      go_ret
      exact ⟨ret_bool (rall_end hno hi hlt).symm, n, rfl⟩
end Go.Proofs.YtimkijmjbnmcbaaGreat
namespace Go.Proofs.YtimkijmjbnmcbaaGreat
open Go.RowKit
set_option maxHeartbeats 400000 in
theorem in13_ok (w : World) (A : Option Addr) (c : Nat) (l : List Int) (h : RInts w A l) (n : Int) :
    Calls Tryz.prog 28 #[.slice A l.length c, .int .i64 n] w fun e w' => e = .returned (.bool (l.any (· == n))) ∧ w = w' := by
  have hl := h.len
  go_enter Tryz.func28, Tryz.ntmps28
  go_wp2_with fail
  go_loop [5] (fun i => ∃ k : Nat, k ≤ l.length ∧ i = .int .i64 k ∧ Hid ((l.take k).any (· == n) = false)) (fun i => l.length - (intOf i).toNat)
  case atStart => exact ⟨0, Nat.zero_le _, rfl, rfl⟩
  case round =>
    obtain ⟨k, hk, rfl, hno⟩ := hrel
    by_cases hlt : k < l.length
    · obtain ⟨ad, rfl, _, hc, _⟩ := h.at_ k hlt
      go_wp2_with fail
      · have hz : (l[k] == n) = true := by assumption
        go_ret
        exact ⟨ret_bool (any_of_at k hlt hz).symm, rfl⟩
      · have hz : (l[k] == n) = false := by assumption
        go_round
        case rel => exact ⟨k + 1, by omega, by go_num, any_on hlt hno hz⟩
        case measure => simp [intOf]; omega
    · go_wp2_with fail
      go_ret
      exact ⟨ret_bool (any_end hno hlt).symm, rfl⟩
end Go.Proofs.YtimkijmjbnmcbaaGreat
namespace Go.Proofs.YtimkijmjbnmcbaaGreat
open Go.RowKit
/-- The kind of a condition fits its numbers. -/
def kindC (k a b n : Int) : Bool :=
  if k = 1 ∨ k = 4 then decide (2 ≤ a ∧ b = 0 ∧ n = 0)
  else if k = 2 then decide (1 ≤ a ∧ b = 1 ∧ n = 0)
  else if k = 3 then decide (a = 2 ∧ b = 0 ∧ 1 ≤ n ∧ n ≤ 99)
  else if k = 5 then decide (a = 2 ∧ b = 0 ∧ n = 0)
  else if k = 6 then decide (1 ≤ a ∧ 1 ≤ b ∧ 0 ≤ n ∧ n ≤ a)
  else false
def condB (c : Cond) (cells letters : Int) : Bool := diffB c.cells cells && decide (1 ≤ (c.cells.length : Int)) && diffB c.letters letters && kindC c.kind c.cells.length c.letters.length c.n
theorem kindC_cells {k a b n : Int} (h : ¬ 1 ≤ a) : kindC k a b n = false := by unfold kindC; grind
theorem condB_ref (c : Cond) (cells letters : Int) : condB c cells letters = (diffB c.cells cells && diffB c.letters letters && kindC c.kind c.cells.length c.letters.length c.n) := by
  unfold condB
  by_cases h : 1 ≤ (c.cells.length : Int)
  · rw [decide_eq_true h]; simp
  · rw [decide_eq_false h, kindC_cells h]; simp
abbrev condV (c : Cond) (A : Option Addr) (a : Nat) (B : Option Addr) (b : Nat) : Value := .agg #[.int .i64 c.kind, .slice A c.cells.length a, .slice B c.letters.length b, .int .i64 c.n]
abbrev condO (c : Cond) (A : Option Addr) (a : Nat) (B : Option Addr) (b : Nat) : Obj := .cells #[.int .i64 c.kind, .slice A c.cells.length a, .slice B c.letters.length b, .int .i64 c.n] 50
set_option maxHeartbeats 2000000 in
set_option maxRecDepth 100000 in
theorem lmCond_ok (w : World) (c : Cond) (A : Option Addr) (a : Nat) (B : Option Addr) (b : Nat) (hA : RInts w A c.cells) (hB : RInts w B c.letters) (n m : Int) :
    Calls Tryz.prog 76 #[condV c A a B b, .int .i64 n, .int .i64 m] w fun e w' => e = .returned (.bool (condB c n m)) ∧ Ext w w' := by
  have hl := hA.len
  have hl2 := hB.len
  have x0 := (Ext.rfl' w).al (condO c A a B b)
  have HA := hid (hA.to x0); have HB := hid (hB.to x0); clear hA hB
  cases h1 : indicesB c.cells n 1
  · go_enter Tryz.func76, Tryz.ntmps76
    go_wp2_with (go_at_call 75; refine (lmIdx_ok _ _ _ _ HA.out _ _).mono ?_; rintro e w' ⟨rfl, rfl⟩)
    go_ret
    exact ⟨ret_bool (by unfold condB; unfold indicesB at h1; rw [h1]; rfl), x0⟩
  cases h2 : indicesB c.letters m 0
  · go_enter Tryz.func76, Tryz.ntmps76
    go_wp2_with (go_at_call 75; first | ((with_reducible refine (lmIdx_ok _ A _ c.cells HA.out _ _).mono ?_); rintro e w' ⟨rfl, rfl⟩) | ((with_reducible refine (lmIdx_ok _ B _ c.letters HB.out _ _).mono ?_); rintro e w' ⟨rfl, rfl⟩))
    go_ret
    exact ⟨ret_bool (by unfold condB; unfold indicesB at h1 h2; rw [h1]; grind), x0⟩
  have hb : condB c n m = kindC c.kind c.cells.length c.letters.length c.n := by unfold condB; unfold indicesB at h1 h2; grind
  have hge : 1 ≤ (c.cells.length : Int) := by unfold indicesB at h1; rw [Bool.and_eq_true, decide_eq_true_iff] at h1; exact h1.2
  have Hb := hid hb; have Hge := hid hge; clear hb hge
  go_enter Tryz.func76, Tryz.ntmps76
  go_wp2_with (go_at_call 75; first | ((with_reducible refine (lmIdx_ok _ A _ c.cells HA.out _ _).mono ?_); rintro e w' ⟨rfl, rfl⟩) | ((with_reducible refine (lmIdx_ok _ B _ c.letters HB.out _ _).mono ?_); rintro e w' ⟨rfl, rfl⟩))
  go_quiet (fail)
  go_wp2_with fail
  all_goals (go_ret; exact ⟨ret_bool (by rw [Hb.out]; have z1 := @List.length_eq_zero_iff _ c.letters; have z2 := @List.length_eq_zero_iff _ c.cells; have z3 := Hge.out; grind [kindC]), x0.drN _⟩)
set_option maxHeartbeats 2000000 in
set_option maxRecDepth 100000 in
theorem cond30_ok (w : World) (c : Cond) (A : Option Addr) (a : Nat) (B : Option Addr) (b : Nat) (hA : RInts w A c.cells) (hB : RInts w B c.letters) (n m : Int) :
    Calls Tryz.prog 45 #[condV c A a B b, .int .i64 n, .int .i64 m] w fun e w' => e = .returned (.bool (condB c n m)) ∧ Ext w w' := by
  have hl := hA.len
  have hl2 := hB.len
  have x0 := (Ext.rfl' w).al (condO c A a B b)
  have HA := hid (hA.to x0); have HB := hid (hB.to x0); clear hA hB
  have hr := condB_ref c n m
  cases h1 : diffB c.cells n
  · go_enter Tryz.func45, Tryz.ntmps45
    go_wp2_with (go_at_call 46; refine (diff30_ok _ _ _ _ HA.out _).mono ?_; rintro e w' ⟨rfl, nd, rfl⟩)
    go_ret
    exact ⟨ret_bool (by rw [hr, h1]; rfl), x0.drN _⟩
  cases h2 : diffB c.letters m
  · go_enter Tryz.func45, Tryz.ntmps45
    go_wp2_with (go_at_call 46; first | ((with_reducible refine (diff30_ok _ A _ c.cells HA.out _).mono ?_); rintro e w' ⟨rfl, nd, rfl⟩) | ((with_reducible refine (diff30_ok _ B _ c.letters (HB.out.to ((Ext.rfl' _).drN _)) _).mono ?_); rintro e w' ⟨rfl, md, rfl⟩))
    go_ret
    exact ⟨ret_bool (by rw [hr, h1, h2]; rfl), x0.drN _⟩
  rw [h1, h2] at hr
  have Hb := hid hr; clear hr
  go_enter Tryz.func45, Tryz.ntmps45
  go_wp2_with (go_at_call 46; first | ((with_reducible refine (diff30_ok _ A _ c.cells HA.out _).mono ?_); rintro e w' ⟨rfl, nd, rfl⟩) | ((with_reducible refine (diff30_ok _ B _ c.letters (HB.out.to ((Ext.rfl' _).drN _)) _).mono ?_); rintro e w' ⟨rfl, md, rfl⟩))
  all_goals (go_ret; exact ⟨ret_bool (by rw [Hb.out]; have z1 := @List.length_eq_zero_iff _ c.letters; have z2 := @List.length_eq_zero_iff _ c.cells; grind [kindC]), x0.drN _⟩)
end Go.Proofs.YtimkijmjbnmcbaaGreat
