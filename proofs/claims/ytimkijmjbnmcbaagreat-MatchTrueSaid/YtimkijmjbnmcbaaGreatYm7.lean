/- Contracts: searching lists of integers, comparing lists, ranges, in both texts. Contracts: graphs are checked alike by both texts; lists of different numbers. Contracts: the reference's check of graphs, and of different numbers. Problems and constraints as data, and what it means that they are valid. Names, conditions, premises, rules, libraries, instances as data. -/
import Derived.Deep.QuietTactic
import Derived.BigQuiet
import Derived.Test.YtimkijmjbnmcbaaGreatYm6
namespace Go.Proofs.YtimkijmjbnmcbaaGreat
open Go.RowKit

set_option maxHeartbeats 400000 in
theorem indexInt_ok (w : World) (A : Option Addr) (c : Nat) (l : List Int) (h : RInts w A l) (n : Int) :
    Calls Tryz.prog 88 #[.slice A l.length c, .int .i64 n] w fun e w' => e = .returned (.int .i64 (idx (n == ·) l)) ∧ w = w' := by
  have hl := h.len
  go_enter Tryz.func88, Tryz.ntmps88
  go_wp2_with fail
  go_loop [8] (fun i => ∃ k : Nat, k ≤ l.length ∧ i = .int .i64 k ∧ Hid ((l.take k).any (n == ·) = false)) (fun i => l.length - (intOf i).toNat)
  case atStart => exact ⟨0, Nat.zero_le _, rfl, rfl⟩
  case round =>
    obtain ⟨k, hk, rfl, hno⟩ := hrel
    by_cases hlt : k < l.length
    · obtain ⟨ad, rfl, _, hc, _⟩ := h.at_ k hlt
      go_wp2_with fail
      · have hz : (n == l[k]) = true := by assumption
        go_ret
        exact ⟨ret_int (idx_found hlt hno hz).symm, rfl⟩
      · have hz : (n == l[k]) = false := by assumption
        go_round
        case rel => exact ⟨k + 1, by omega, by go_num, any_on hlt hno hz⟩
        case measure => simp [intOf]; omega
    · go_wp2_with fail
      go_ret
      exact ⟨ret_int (idx_none (any_end hno hlt)).symm, rfl⟩

set_option maxHeartbeats 400000 in
theorem containsInt_ok (w : World) (A : Option Addr) (c : Nat) (l : List Int) (h : RInts w A l) (n : Int) :
    Calls Tryz.prog 70 #[.slice A l.length c, .int .i64 n] w fun e w' => e = .returned (.bool (l.any (n == ·))) ∧ w = w' := by
  go_enter Tryz.func70, Tryz.ntmps70
  go_wp2_with fail
  refine (indexInt_ok w A c l h n).mono ?_
  rintro e w1 ⟨rfl, rfl⟩
  go_wp2_with fail
  go_ret
  exact ⟨ret_bool (idx_nonneg _ l), rfl⟩

set_option maxHeartbeats 400000 in
theorem has12_ok (w : World) (A : Option Addr) (c : Nat) (l : List Int) (h : RInts w A l) (n : Int) :
    Calls Tryz.prog 78 #[.slice A l.length c, .int .i64 n] w fun e w' => e = .returned (.bool (l.any (· == n))) ∧ w = w' := by
  have hl := h.len
  go_enter Tryz.func78, Tryz.ntmps78
  go_wp2_with fail
  go_loop [5] (fun i => ∃ k : Nat, k ≤ l.length ∧ i = .int .i64 k ∧ Hid ((l.take k).any (· == n) = false)) (fun i => l.length - (intOf i).toNat)
  case atStart => exact ⟨0, Nat.zero_le _, rfl, rfl⟩
  case round =>
    obtain ⟨k, hk, rfl, hno⟩ := hrel
    by_cases hlt : k < l.length
    · obtain ⟨ad, rfl, _, hc, _⟩ := h.at_ k hlt
      go_wp2_with fail
      · have hz : (l[k] == n) = true := by assumption
        go_ret
        exact ⟨ret_bool (any_of_at k hlt hz).symm, rfl⟩
      · have hz : (l[k] == n) = false := by assumption
        go_round
        case rel => exact ⟨k + 1, by omega, by go_num, any_on hlt hno hz⟩
        case measure => simp [intOf]; omega
    · go_wp2_with fail
      go_ret
      exact ⟨ret_bool (any_end hno hlt).symm, rfl⟩

set_option maxHeartbeats 400000 in
theorem between19_ok (w : World) (A : Option Addr) (c : Nat) (l : List Int) (h : RInts w A l) (lo hi : Int) :
    Calls Tryz.prog 40 #[.slice A l.length c, .int .i64 lo, .int .i64 hi] w fun e w' => e = .returned (.bool (inB lo hi l)) ∧ w = w' := by
  have hl := h.len
  go_enter Tryz.func40, Tryz.ntmps40
  go_wp2_with fail
  go_loop [7] (fun i => ∃ k : Nat, k ≤ l.length ∧ i = .int .i64 k ∧ Hid (inB lo hi (l.take k) = true)) (fun i => l.length - (intOf i).toNat)
  case atStart => exact ⟨0, Nat.zero_le _, rfl, rfl⟩
  case round =>
    obtain ⟨k, hk, rfl, hno⟩ := hrel
    by_cases hlt : k < l.length
    · obtain ⟨ad, rfl, _, hc, _⟩ := h.at_ k hlt
      by_cases h1 : l[k] < lo
      · go_wp2_with fail
        go_ret
        exact ⟨ret_bool (all_of_at k hlt (by simp; omega)).symm, rfl⟩
      · have h1' : decide (l[k] < lo) = false := by simpa using h1
        by_cases h2 : hi < l[k]
        · go_wp2_with fail
          go_ret
          exact ⟨ret_bool (all_of_at k hlt (by simp; omega)).symm, rfl⟩
        · have h2' : decide (hi < l[k]) = false := by simpa using h2
          go_wp2_with fail
          go_round
          case rel => exact ⟨k + 1, by omega, by go_num, all_on hlt hno (by simp; omega)⟩
          case measure => simp [intOf]; omega
    · go_wp2_with fail
      go_ret
      exact ⟨ret_bool (all_end hno hlt).symm, rfl⟩

theorem same_step (l m : List Int) (hlen : l.length = m.length) (k : Nat) (hk : k < l.length) (h : l.take k = m.take k) (he : l[k] = m[k]'(by omega)) : l.take (k + 1) = m.take (k + 1) := by
  rw [List.take_succ_eq_append_getElem hk, List.take_succ_eq_append_getElem (by omega : k < m.length), h, he]

set_option maxHeartbeats 400000 in
theorem same13_ok (w : World) (A B : Option Addr) (c d : Nat) (l m : List Int) (h : RInts w A l) (g : RInts w B m) :
    Calls Tryz.prog 77 #[.slice A l.length c, .slice B m.length d] w fun e w' => e = .returned (.bool (l == m)) ∧ ∃ n, w' = w.drewN n := by
  have hl := h.len
  have gl := g.len
  by_cases hne : l.length = m.length
  · have hb : ((l.length : Int) != (m.length : Int)) = false := by simp [hne]
    have hlen := hid hne; clear hne
    go_enter Tryz.func77, Tryz.ntmps77
    go_wp2_with fail
    go_loopw [5] (fun i wr => ∃ k n : Nat, k ≤ l.length ∧ i = .int .i64 k ∧ Hid (l.take k = m.take k) ∧ wr = w.drewN n) (fun i _ => l.length - (intOf i).toNat)
    case atStart => exact ⟨0, 0, Nat.zero_le _, rfl, rfl, rfl⟩
    case round =>
      obtain ⟨k, n, hk, rfl, hno, rfl⟩ := hrel
      by_cases hlt : k < l.length
      · have hlt2 : k < m.length := by have := hlen.out; omega
        obtain ⟨ad, rfl, _, hc, _⟩ := h.at_ k hlt
        obtain ⟨bd, rfl, _, gc, _⟩ := g.at_ k hlt2
        go_wp2_with fail
        go_quiet (fail)
        go_wp2_with fail
        · have hz : (l[k] != m[k]) = true := by assumption
          go_ret
          refine ⟨ret_bool ?_, _, World.drewN_drewN _ _ _⟩
          symm; rw [beq_eq_false_iff_ne]; intro e; subst e; simp at hz
        · have hz : (l[k] != m[k]) = false := by assumption
          go_roundw
          case rel => exact ⟨k + 1, _, by omega, by go_num, same_step l m hlen.out k hlt hno (by simpa using hz), rfl⟩
          case measure => simp [intOf]; omega
      · go_wp2_with fail
        go_ret
        refine ⟨ret_bool ?_, _, rfl⟩
        have e : l = m := by
          have := hno.out
          rwa [List.take_of_length_le (by omega), List.take_of_length_le (by have := hlen.out; omega)] at this
        symm; rw [beq_iff_eq]; exact e
  · have hb : ((l.length : Int) != (m.length : Int)) = true := by simp; omega
    go_enter Tryz.func77, Tryz.ntmps77
    go_wp2_with fail
    go_ret
    exact ⟨ret_bool (by symm; simp; intro e; exact hne (by rw [e])), 0, rfl⟩
end Go.Proofs.YtimkijmjbnmcbaaGreat
namespace Go.Proofs.YtimkijmjbnmcbaaGreat
open Go.RowKit

/-- The k-th neighbor of node i is right. -/
def gEdge (g : List (List Int)) (i k : Nat) : Bool :=
  decide (0 ≤ num (row g i) k) && decide (num (row g i) k < g.length) && !(num (row g i) k == (i : Int)) && !(decide (0 < k) && decide (num (row g i) k ≤ num (row g i) (k - 1))) && (row g (num (row g i) k).toNat).any (· == (i : Int))
def gRow (g : List (List Int)) (i : Nat) : Bool := (List.range (row g i).length).all (gEdge g i)
def gOk (g : List (List Int)) : Bool := decide (g.length ≤ 256) && (List.range g.length).all (gRow g)
def gErr (g : List (List Int)) : Int := if gOk g then 0 else 120

theorem gErr_bad {g : List (List Int)} {i k : Nat} (hi : i < g.length) (hk : k < (row g i).length) (h : gEdge g i k = false) : gErr g = 120 := by
  have h1 : gRow g i = false := rall_bad hk h
  have h2 : (List.range g.length).all (gRow g) = false := rall_bad hi h1
  simp [gErr, gOk, h2]
theorem gErr_long {g : List (List Int)} (h : 256 < g.length) : gErr g = 120 := by
  have : decide (g.length ≤ 256) = false := by simp; omega
  simp [gErr, gOk, this]
theorem gErr_good {g : List (List Int)} (h : g.length ≤ 256) (h2 : (List.range g.length).all (gRow g) = true) : gErr g = 0 := by
  have : decide (g.length ≤ 256) = true := by simp; omega
  simp only [gErr, gOk, this, h2]; rfl
theorem any_flip (l : List Int) (n : Int) : l.any (n == ·) = l.any (· == n) := by congr 1; funext x; exact Bool.eq_iff_iff.2 (by simp; exact eq_comm)

set_option maxHeartbeats 1000000 in
theorem gcheck_ok (w : World) (A : Option Addr) (c : Nat) (g : List (List Int)) (h : RRows w A g) :
    Calls Tryz.prog 93 #[.slice A g.length c] w fun e w' => e = .returned (.int .i64 (gErr g)) ∧ w = w' := by
  have hl := h.len
  by_cases hbig : 256 < g.length
  · go_enter Tryz.func93, Tryz.ntmps93
    go_wp2_with fail
    go_ret
    exact ⟨ret_int (gErr_long hbig).symm, rfl⟩
  go_enter Tryz.func93, Tryz.ntmps93
  go_wp2_with fail
  go_loop [12] (fun i => ∃ k : Nat, k ≤ g.length ∧ i = .int .i64 k ∧ Hid ((List.range k).all (gRow g) = true)) (fun i => g.length - (intOf i).toNat)
  case atStart => exact ⟨0, Nat.zero_le _, rfl, rfl⟩
  case round =>
    obtain ⟨i, hi, rfl, hno⟩ := hrel
    by_cases hlt : i < g.length
    · obtain ⟨ad, Bi, ci, rfl, _, hci, hBi⟩ := h.rowAt i hlt
      have hBl := hBi.len
      go_wp2_with fail
      go_loop [19] (fun i' => ∃ k : Nat, k ≤ (row g i).length ∧ i' = .int .i64 k ∧ Hid ((List.range k).all (gEdge g i) = true)) (fun i' => (row g i).length - (intOf i').toNat)
      case atStart => exact ⟨0, Nat.zero_le _, rfl, rfl⟩
      case round =>
        obtain ⟨k, hk, rfl, hno2⟩ := hrel
        by_cases hlt2 : k < (row g i).length
        · obtain ⟨bd, rfl, _, hd, _⟩ := hBi.num (by omega)
          have hkk : 0 < k → k - 1 < (row g i).length := fun _ => by omega
          clear hci
          obtain ⟨B, cB, hc, hB⟩ := h.rowOf (by omega)
          have HB := hid hB; clear hB
          go_wp2_with (go_at_call 70; refine (containsInt_ok _ _ _ _ (HB.out _ (by omega)) _).mono ?_; rintro e w1 ⟨rfl, rfl⟩)
          all_goals first
            | (go_ret; exact ⟨ret_int (gErr_bad hlt hlt2 (by (try simp only [any_flip] at *); grind [gEdge])).symm, rfl⟩)
            | (go_round
               case rel => exact ⟨k + 1, by omega, by go_num, rall_on hno2 (by (try simp only [any_flip] at *); grind [gEdge])⟩
               case measure => simp [intOf]; omega)
        · go_wp2_with fail
          go_round
          case rel => exact ⟨i + 1, by omega, by go_num, rall_on hno (rall_end hno2 hk hlt2)⟩
          case measure => simp [intOf]; omega
    · go_wp2_with fail
      go_ret
      exact ⟨ret_int (gErr_good (by omega) (rall_end hno hi hlt)).symm, rfl⟩
end Go.Proofs.YtimkijmjbnmcbaaGreat
namespace Go.Proofs.YtimkijmjbnmcbaaGreat
open Go.RowKit

set_option maxHeartbeats 1000000 in
theorem check12_ok (w : World) (A : Option Addr) (c : Nat) (g : List (List Int)) (h : RRows w A g) :
    Calls Tryz.prog 41 #[.slice A g.length c] w fun e w' => e = .returned (.int .i64 (gErr g)) ∧ w = w' := by
  have hl := h.len
  by_cases hbig : 256 < g.length
  · go_enter Tryz.func41, Tryz.ntmps41
    go_wp2_with fail
    go_ret
    exact ⟨ret_int (gErr_long hbig).symm, rfl⟩
  go_enter Tryz.func41, Tryz.ntmps41
  go_wp2_with fail
  go_loop [3] (fun i => ∃ k : Nat, k ≤ g.length ∧ i = .int .i64 k ∧ Hid ((List.range k).all (gRow g) = true)) (fun i => g.length - (intOf i).toNat)
  case atStart => exact ⟨0, Nat.zero_le _, rfl, rfl⟩
  case round =>
    obtain ⟨i, hi, rfl, hno⟩ := hrel
    by_cases hlt : i < g.length
    · obtain ⟨ad, Bi, ci, rfl, _, hci, hBi⟩ := h.rowAt i hlt
      have hBl := hBi.len
      go_wp2_with fail
      go_loop [4] (fun i' => ∃ k : Nat, k ≤ (row g i).length ∧ i' = .int .i64 k ∧ Hid ((List.range k).all (gEdge g i) = true)) (fun i' => (row g i).length - (intOf i').toNat)
      case atStart => exact ⟨0, Nat.zero_le _, rfl, rfl⟩
      case round =>
        obtain ⟨k, hk, rfl, hno2⟩ := hrel
        by_cases hlt2 : k < (row g i).length
        · obtain ⟨bd, rfl, _, hd, _⟩ := hBi.num (by omega)
          have hkk : 0 < k → k - 1 < (row g i).length := fun _ => by omega
          obtain ⟨B, cB, hc, hB⟩ := h.rowOf (by omega)
          have hcn : 0 ≤ num (row g i) k → num (row g i) k < g.length → w.cell? (ad.add (num (row g i) k).toNat) = some (.slice (B (num (row g i) k).toNat) (row g (num (row g i) k).toNat).length (cB (num (row g i) k).toNat)) := fun _ _ => hc _ (by omega)
          clear hc
          have HB := hid hB; clear hB
          go_wp2_with (go_at_call 78; refine (has12_ok _ _ _ _ (HB.out _ (by omega)) _).mono ?_; rintro e w1 ⟨rfl, rfl⟩)
          all_goals first
            | (go_ret; exact ⟨ret_int (gErr_bad hlt hlt2 (by grind [gEdge])).symm, rfl⟩)
            | (go_round
               case rel => exact ⟨k + 1, by omega, by go_num, rall_on hno2 (by grind [gEdge])⟩
               case measure => simp [intOf]; omega)
        · go_wp2_with fail
          go_round
          case rel => exact ⟨i + 1, by omega, by go_num, rall_on hno (rall_end hno2 hk hlt2)⟩
          case measure => simp [intOf]; omega
    · go_wp2_with fail
      go_ret
      exact ⟨ret_int (gErr_good (by omega) (rall_end hno hi hlt)).symm, rfl⟩

/-- No number stands twice. -/
def distinct (l : List Int) : Bool := (List.range l.length).all fun i => (List.range i).all fun k => !(num l i == num l k)

set_option maxHeartbeats 1000000 in
theorem diff19_ok (w : World) (A : Option Addr) (c : Nat) (l : List Int) (h : RInts w A l) :
    Calls Tryz.prog 79 #[.slice A l.length c] w fun e w' => e = .returned (.bool (distinct l)) ∧ ∃ n, w' = w.drewN n := by
  have hl := h.len
  go_enter Tryz.func79, Tryz.ntmps79
  go_wp2_with fail
  go_loopw [3] (fun i wr => ∃ k n : Nat, k ≤ l.length ∧ i = .int .i64 k ∧ Hid ((List.range k).all (fun i => (List.range i).all fun k => !(num l i == num l k)) = true) ∧ wr = w.drewN n) (fun i _ => l.length - (intOf i).toNat)
  case atStart => exact ⟨0, 0, Nat.zero_le _, rfl, rfl, rfl⟩
  case round =>
    obtain ⟨i, n, hi, rfl, hno, rfl⟩ := hrel
    by_cases hlt : i < l.length
    · obtain ⟨ad, rfl, _, hc, _⟩ := h.num (by omega)
      go_wp2_with fail
      go_loopw [4] (fun i' wr => ∃ k m : Nat, k ≤ i ∧ i' = .int .i64 k ∧ Hid ((List.range k).all (fun k => !(num l i == num l k)) = true) ∧ wr = w.drewN m) (fun i' _ => i - (intOf i').toNat)
      case atStart => exact ⟨0, n, Nat.zero_le _, rfl, rfl, rfl⟩
      case round =>
        obtain ⟨k, m, hk, rfl, hno2, rfl⟩ := hrel
        by_cases hlt2 : k < i
        · have hkl : k < l.length := by omega
          go_wp2_with fail
          go_quiet (fail)
          go_wp2_with fail
          · have hz : (num l i == num l k) = true := by assumption
            go_ret
            exact ⟨ret_bool (rall_bad hlt (rall_bad hlt2 (by rw [hz]; rfl))).symm, _, by first | rfl | exact World.drewN_drewN _ _ _⟩
          · have hz : (num l i == num l k) = false := by assumption
            go_roundw
            case rel => exact ⟨k + 1, _, by omega, by go_num, rall_on hno2 (by rw [hz]; rfl), by first | rfl | exact World.drewN_drewN _ _ _⟩
            case measure => simp [intOf]; omega
        · go_wp2_with fail
          go_roundw
          case rel => exact ⟨i + 1, m, by omega, by go_num, rall_on hno (rall_end hno2 hk hlt2), rfl⟩
          case measure => simp [intOf]; omega
    · go_wp2_with fail
      go_ret
      exact ⟨ret_bool (rall_end hno hi hlt).symm, n, rfl⟩
end Go.Proofs.YtimkijmjbnmcbaaGreat
namespace Go.Proofs.YtimkijmjbnmcbaaGreat
open Go.RowKit
structure Cons where
  kind : Int
  cells : List Int
  set : Int
  other : Int
  lo : Int
  hi : Int
  runs : List Int
  rule : Int
  at_ : Int
abbrev consCells (c : Cons) (A : Option Addr) (a : Nat) (B : Option Addr) (b : Nat) : List Value :=
  [.int .i64 c.kind, .slice A c.cells.length a, .int .i64 c.set, .int .i64 c.other, .int .i64 c.lo, .int .i64 c.hi, .slice B c.runs.length b, .int .i64 c.rule, .int .i64 c.at_]
def Cons.ok (c : Cons) : Prop := I64 c.kind ∧ I64 c.set ∧ I64 c.other ∧ I64 c.lo ∧ I64 c.hi ∧ I64 c.rule ∧ I64 c.at_
def RCons (w : World) (vs : List Value) (c : Cons) : Prop := ∃ A a B b, vs = consCells c A a B b ∧ RInts w A c.cells ∧ RInts w B c.runs ∧ c.ok
theorem RCons.keeps : Keeps RCons := fun _ _ _ _ hb ⟨A, a, B, b, e, h1, h2, h3⟩ => ⟨A, a, B, b, e, h1.to hb, h2.to hb, h3⟩
abbrev RConss := RSl 9 RCons
theorem RConss.to {w w' : World} {A : Option Addr} {l : List Cons} (h : RConss w A l) (hb : Ext w w') : RConss w' A l := RSl.to RCons.keeps h hb
structure Problem where
  cells : Int
  symbols : Int
  values : List Int
  neighbors : List (List Int)
  cons : List Cons
structure PPtr where
  a : Option Addr
  ac : Nat
  b : Option Addr
  bc : Nat
  c : Option Addr
  cc : Nat
abbrev probV (q : Problem) (p : PPtr) : Value :=
  .agg #[.int .i64 q.cells, .int .i64 q.symbols, .slice p.a q.values.length p.ac, .slice p.b q.neighbors.length p.bc, .slice p.c q.cons.length p.cc]
structure RProb (w : World) (q : Problem) (p : PPtr) : Prop where
  values : RInts w p.a q.values
  neighbors : RRows w p.b q.neighbors
  cons : RConss w p.c q.cons
  cells : I64 q.cells
  symbols : I64 q.symbols
theorem RProb.to {w w' : World} {q : Problem} {p : PPtr} (h : RProb w q p) (hb : Ext w w') : RProb w' q p := ⟨h.values.to hb, h.neighbors.to hb, h.cons.to hb, h.cells, h.symbols⟩
theorem boxE {W0 W : World} {cs : Array Value} {t : TypeId} {g : Nat} (h : Ext (W0.alloc (.cells cs t)) W) (hg : W0.heap.size = g) (i : Nat) (v : Value) (hv : cs[i]? = some v) : W.cell? ⟨g, i, none⟩ = some v := by
  subst hg
  have hb := (Blk.new W0 t cs).ext h
  rw [hb.cell]; exact hv
/-- The k-th number stands before. -/
def met (l : List Int) (k : Nat) : Bool := (List.range k).any fun i => num l i == num l k
/-- The i-th cell of a constraint is right. -/
def cellOk (cells : Int) (c : Cons) (i : Nat) : Bool :=
  decide (0 ≤ num c.cells i) && decide (num c.cells i < cells) && !(met c.cells i) && (decide (c.kind < 8) || num c.cells i == (i : Int))
/-- Its kind fits its cells. -/
def kindOk (cells : Int) (c : Cons) : Bool :=
  decide (1 ≤ c.kind ∧ c.kind ≤ 9 ∧ (c.kind = 6 ∨ c.kind = 7 → (c.cells.length : Int) = 2) ∧ (8 ≤ c.kind → (c.cells.length : Int) = cells))
/-- Its numbers are in their ranges. -/
def numsOk (symbols : Int) (c : Cons) : Bool :=
  inB 0 (2 ^ symbols.toNat - 1) [c.set, c.other] && inB 0 65536 [c.lo, c.hi] && decide (c.runs.length ≤ 8) && inB 1 256 c.runs
/-- A constraint is valid. -/
def fineB (cells symbols : Int) (c : Cons) : Bool := (List.range c.cells.length).all (cellOk cells c) && kindOk cells c && numsOk symbols c
def zeros256 : Array Value := Array.replicate 256 (.bool false)
theorem zero256 (W : World) : (zeroValue 126).run Tryz.prog W = .ok (.agg zeros256) W := by unfold zeros256; kernel_rfl
/-- The table of the cells that were met. -/
def SeenTab (Z : Array Value) (l : List Int) (k : Nat) : Prop := ∀ j, j < 256 → Z[j]? = some (.bool ((List.range k).any fun i => num l i == (j : Int)))
theorem seen_zero (l : List Int) : SeenTab zeros256 l 0 := by
  intro j hj
  simp [zeros256, hj]
theorem seen_set {Z : Array Value} {l : List Int} {k : Nat} (h : SeenTab Z l k) (h0 : 0 ≤ num l k) (h1 : num l k < 256) : SeenTab (Z.setIfInBounds (num l k).toNat (.bool true)) l (k + 1) := by
  intro j hj
  have hz := h j hj
  have hs : j < Z.size := by
    by_cases hl : j < Z.size
    · exact hl
    · rw [Array.getElem?_eq_none (by omega)] at hz; cases hz
  rw [Array.getElem?_setIfInBounds, List.range_succ, List.any_append]
  by_cases he : (num l k).toNat = j
  · have : (num l k == (j : Int)) = true := by simp; omega
    simp [he, hs, this]
  · have : (num l k == (j : Int)) = false := by simp; omega
    simp [he, hz, this]
theorem RInts.two {W : World} {a b : Int} {t : TypeId} (ha : I64 a) (hb : I64 b) : RInts (W.alloc (.cells #[.int .i64 a, .int .i64 b] t)) (some ⟨W.heap.size, 0, none⟩) [a, b] := by
  refine ⟨by simp, fun _ => ⟨_, rfl, by simp, fun i hi => ?_⟩⟩
  have hk := Blk.new W t #[.int .i64 a, .int .i64 b]
  have e : (⟨W.heap.size, 0, none⟩ : Addr).add (i * 1 + 0) = ⟨W.heap.size, i, none⟩ := by
    unfold Addr.add; simp; intro h; exact h.symm
  match i, hi with
  | 0, _ => exact ⟨[.int .i64 a], rfl, ⟨rfl, ha⟩, fun j hj => by
      obtain rfl : j = 0 := by simpa using hj
      rw [e, hk.cell]; rfl⟩
  | 1, _ => exact ⟨[.int .i64 b], rfl, ⟨rfl, hb⟩, fun j hj => by
      obtain rfl : j = 0 := by simpa using hj
      rw [e, hk.cell]; rfl⟩
/-- What the last statement of 'fine' reads. -/
def FineHeld (w : World) (q : Problem) (c : Cons) (B : Option Addr) (b : Nat) (W : World) : Prop :=
  W.cell? ⟨w.heap.size, 1, none⟩ = some (.int .i64 q.symbols) ∧ W.cell? ⟨w.heap.size + 1, 2, none⟩ = some (.int .i64 c.set) ∧ W.cell? ⟨w.heap.size + 1, 3, none⟩ = some (.int .i64 c.other) ∧ W.cell? ⟨w.heap.size + 1, 4, none⟩ = some (.int .i64 c.lo) ∧ W.cell? ⟨w.heap.size + 1, 5, none⟩ = some (.int .i64 c.hi) ∧ W.cell? ⟨w.heap.size + 1, 6, none⟩ = some (.slice B c.runs.length b)
abbrev probO (q : Problem) (p : PPtr) : Obj := .cells #[.int .i64 q.cells, .int .i64 q.symbols, .slice p.a q.values.length p.ac, .slice p.b q.neighbors.length p.bc, .slice p.c q.cons.length p.cc] 26
abbrev consO (c : Cons) (A : Option Addr) (a : Nat) (B : Option Addr) (b : Nat) : Obj := .cells (consCells c A a B b).toArray 58
theorem fineHeld {w W : World} {q : Problem} {p : PPtr} {c : Cons} {A : Option Addr} {a : Nat} {B : Option Addr} {b : Nat} (h : Ext ((w.alloc (probO q p)).alloc (consO c A a B b)) W) : FineHeld w q c B b W := by
  have hx1 := ((Ext.rfl' _).al _).tr h
  have e1 := World.size_alloc w (probO q p)
  exact ⟨boxE hx1 rfl 1 _ rfl, boxE h e1 2 _ rfl, boxE h e1 3 _ rfl, boxE h e1 4 _ rfl, boxE h e1 5 _ rfl, boxE h e1 6 _ rfl⟩
theorem pow_bd (n : Int) (h1 : 0 ≤ n) (h2 : n ≤ 16) : 1 ≤ (2 : Int) ^ n.toNat ∧ (2 : Int) ^ n.toNat ≤ 65536 := by
  obtain ⟨k, rfl⟩ := Int.eq_ofNat_of_zero_le h1
  have hk : k ≤ 16 := by omega
  rw [Int.toNat_natCast]
  have h : ∀ k : Nat, k ≤ 16 → 1 ≤ (2 : Int) ^ k ∧ (2 : Int) ^ k ≤ 65536 := by decide
  exact h k hk
theorem mask_eq (n : Int) (h1 : 1 ≤ n) (h2 : n ≤ 16) : IntKind.i64.wrap (IntKind.i64.wrap (2 ^ n.toNat) - 1) = 2 ^ n.toNat - 1 := by
  have := pow_bd n (by omega) h2
  rw [IntWalk.i64_in (2 ^ n.toNat) ⟨by omega, by omega⟩, IntWalk.i64_in _ ⟨by omega, by omega⟩]
theorem RConss.consAt {w : World} {A : Option Addr} {l : List Cons} (h : RConss w A l) (k : Nat) (hk : k < l.length) :
    ∃ ad B b C c, A = some ad ∧ ad.block < w.heap.size ∧ RInts w B l[k].cells ∧ RInts w C l[k].runs ∧ l[k].ok ∧ ∀ j v, (consCells l[k] B b C c)[j]? = some v → w.cell? (ad.add (k * 9 + j)) = some v := by
  obtain ⟨ad, e, hb, hc⟩ := h.2 (by omega)
  obtain ⟨vs, hn, ⟨B, b, C, c, rfl, h1, h2, h3⟩, hv⟩ := hc k hk
  refine ⟨ad, B, b, C, c, e, hb, h1, h2, h3, fun j v hj => ?_⟩
  obtain ⟨hl, e⟩ := List.getElem?_eq_some_iff.1 hj
  rw [← e]
  exact hv j hl
theorem add_pos (e : Addr) (i : Nat) (h : 0 < i) : e.add i = ⟨e.block, e.off + i, none⟩ := by
  unfold Addr.add; rw [if_neg (by omega)]
/-- The k-th constraint, in the spelling of a load of the whole struct. -/
theorem RConss.consLoad {w : World} {A : Option Addr} {l : List Cons} (h : RConss w A l) (k : Nat) (hk : k < l.length) :
    ∃ ad B b C c, A = some ad ∧ ad.block < w.heap.size ∧ RInts w B l[k].cells ∧ RInts w C l[k].runs ∧ l[k].ok ∧
      w.cell? (ad.add (k * 9)) = some (.int .i64 l[k].kind) ∧ w.cell? ⟨(ad.add (k * 9)).block, (ad.add (k * 9)).off + 1, none⟩ = some (.slice B l[k].cells.length b) ∧
      w.cell? ⟨(ad.add (k * 9)).block, (ad.add (k * 9)).off + 2, none⟩ = some (.int .i64 l[k].set) ∧ w.cell? ⟨(ad.add (k * 9)).block, (ad.add (k * 9)).off + 3, none⟩ = some (.int .i64 l[k].other) ∧
      w.cell? ⟨(ad.add (k * 9)).block, (ad.add (k * 9)).off + 4, none⟩ = some (.int .i64 l[k].lo) ∧ w.cell? ⟨(ad.add (k * 9)).block, (ad.add (k * 9)).off + 5, none⟩ = some (.int .i64 l[k].hi) ∧
      w.cell? ⟨(ad.add (k * 9)).block, (ad.add (k * 9)).off + 6, none⟩ = some (.slice C l[k].runs.length c) ∧ w.cell? ⟨(ad.add (k * 9)).block, (ad.add (k * 9)).off + 7, none⟩ = some (.int .i64 l[k].rule) ∧
      w.cell? ⟨(ad.add (k * 9)).block, (ad.add (k * 9)).off + 8, none⟩ = some (.int .i64 l[k].at_) := by
  obtain ⟨ad, B, b, C, c, e, hb, h1, h2, h3, hc⟩ := h.consAt k hk
  have e0 : ∀ i, 0 < i → ad.add (k * 9 + i) = ⟨(ad.add (k * 9)).block, (ad.add (k * 9)).off + i, none⟩ := fun i hi => by rw [← add_of_add, add_pos _ _ hi]
  refine ⟨ad, B, b, C, c, e, hb, h1, h2, h3, by have := hc 0 _ rfl; simpa using this, ?_, ?_, ?_, ?_, ?_, ?_, ?_, ?_⟩
  all_goals (rw [← e0 _ (by omega)]; exact hc _ _ rfl)
def ConsAt (w : World) (e : Addr) (c : Cons) (B : Option Addr) (b : Nat) (C : Option Addr) (cc : Nat) : Prop :=
  w.cell? e = some (.int .i64 c.kind) ∧ w.cell? ⟨e.block, e.off + 1, none⟩ = some (.slice B c.cells.length b) ∧ w.cell? ⟨e.block, e.off + 2, none⟩ = some (.int .i64 c.set) ∧ w.cell? ⟨e.block, e.off + 3, none⟩ = some (.int .i64 c.other) ∧
  w.cell? ⟨e.block, e.off + 4, none⟩ = some (.int .i64 c.lo) ∧ w.cell? ⟨e.block, e.off + 5, none⟩ = some (.int .i64 c.hi) ∧ w.cell? ⟨e.block, e.off + 6, none⟩ = some (.slice C c.runs.length cc) ∧ w.cell? ⟨e.block, e.off + 7, none⟩ = some (.int .i64 c.rule) ∧ w.cell? ⟨e.block, e.off + 8, none⟩ = some (.int .i64 c.at_)
theorem ConsAt.keep {w W : World} {e : Addr} {c : Cons} {B : Option Addr} {b : Nat} {C : Option Addr} {cc : Nat} (hW : Ext w W) (he : e.block < w.heap.size) (h : ConsAt w e c B b C cc) : ConsAt W e c B b C cc := by
  obtain ⟨h0, h1, h2, h3, h4, h5, h6, h7, h8⟩ := h
  exact ⟨cellE hW h0 he, cellE hW h1 he, cellE hW h2 he, cellE hW h3 he, cellE hW h4 he, cellE hW h5 he, cellE hW h6 he, cellE hW h7 he, cellE hW h8 he⟩
theorem RConss.len {w : World} {A : Option Addr} {l : List Cons} (h : RConss w A l) : l.length ≤ 17592186044416 := by have := h.1; omega
end Go.Proofs.YtimkijmjbnmcbaaGreat
namespace Go.Proofs.YtimkijmjbnmcbaaGreat
open Go.RowKit
def RStr (_ : World) (vs : List Value) (s : ByteArray) : Prop := vs = [.string s] ∧ s.size ≤ maxLen
theorem RStr.keeps : Keeps RStr := fun _ _ _ _ _ h => h
abbrev RStrs := RSl 1 RStr
theorem RStrs.to {w w' : World} {A : Option Addr} {l : List ByteArray} (h : RStrs w A l) (hb : Ext w w') : RStrs w' A l := RSl.to RStr.keeps h hb
def txt (l : List ByteArray) (k : Nat) : ByteArray := l.getD k ByteArray.empty
theorem txt_eq {l : List ByteArray} {k : Nat} (h : k < l.length) : txt l k = l[k] := by simp [txt, h]
theorem RStrs.at_ {w : World} {A : Option Addr} {l : List ByteArray} (h : RStrs w A l) (hp : 0 < l.length) :
    ∃ ad, A = some ad ∧ ad.block < w.heap.size ∧ (∀ k, k < l.length → w.cell? (ad.add k) = some (.string (txt l k))) ∧ ∀ k, k < l.length → (txt l k).size ≤ maxLen := by
  obtain ⟨ad, e, hb, hc⟩ := h.2 hp
  refine ⟨ad, e, hb, fun k hk => ?_, fun k hk => ?_⟩
  · obtain ⟨vs, _, ⟨rfl, _⟩, hv⟩ := hc k hk
    have := hv 0 (by simp)
    rw [txt_eq hk]; simpa using this
  · obtain ⟨vs, _, ⟨rfl, hi⟩, _⟩ := hc k hk
    rw [txt_eq hk]; exact hi
theorem RStrs.len {w : World} {A : Option Addr} {l : List ByteArray} (h : RStrs w A l) : l.length ≤ 17592186044416 := by have := h.1; omega

structure Cond where
  kind : Int
  cells : List Int
  letters : List Int
  n : Int
abbrev condCells (c : Cond) (A : Option Addr) (a : Nat) (B : Option Addr) (b : Nat) : List Value :=
  [.int .i64 c.kind, .slice A c.cells.length a, .slice B c.letters.length b, .int .i64 c.n]
def RCond (w : World) (vs : List Value) (c : Cond) : Prop := ∃ A a B b, vs = condCells c A a B b ∧ RInts w A c.cells ∧ RInts w B c.letters ∧ I64 c.kind ∧ I64 c.n
theorem RCond.keeps : Keeps RCond := fun _ _ _ _ hb ⟨A, a, B, b, e, h1, h2, h3⟩ => ⟨A, a, B, b, e, h1.to hb, h2.to hb, h3⟩
abbrev RConds := RSl 4 RCond
theorem RConds.to {w w' : World} {A : Option Addr} {l : List Cond} (h : RConds w A l) (hb : Ext w w') : RConds w' A l := RSl.to RCond.keeps h hb
theorem RConds.condAt {w : World} {A : Option Addr} {l : List Cond} (h : RConds w A l) (k : Nat) (hk : k < l.length) :
    ∃ ad B b C c, A = some ad ∧ ad.block < w.heap.size ∧ RInts w B l[k].cells ∧ RInts w C l[k].letters ∧ I64 l[k].kind ∧ I64 l[k].n ∧
      w.cell? (ad.add (k * 4)) = some (.int .i64 l[k].kind) ∧ w.cell? ⟨(ad.add (k * 4)).block, (ad.add (k * 4)).off + 1, none⟩ = some (.slice B l[k].cells.length b) ∧
      w.cell? ⟨(ad.add (k * 4)).block, (ad.add (k * 4)).off + 2, none⟩ = some (.slice C l[k].letters.length c) ∧ w.cell? ⟨(ad.add (k * 4)).block, (ad.add (k * 4)).off + 3, none⟩ = some (.int .i64 l[k].n) := by
  obtain ⟨ad, e, hb, hc⟩ := h.2 (by omega)
  obtain ⟨vs, hn, ⟨B, b, C, c, rfl, h1, h2, h3, h4⟩, hv⟩ := hc k hk
  have e0 : ∀ i, 0 < i → ad.add (k * 4 + i) = ⟨(ad.add (k * 4)).block, (ad.add (k * 4)).off + i, none⟩ := fun i hi => by rw [← add_of_add, add_pos _ _ hi]
  refine ⟨ad, B, b, C, c, e, hb, h1, h2, h3, h4, by have := hv 0 (by simp); simpa using this, ?_, ?_, ?_⟩
  all_goals (rw [← e0 _ (by omega)]; exact hv _ (by simp))
theorem RConds.len {w : World} {A : Option Addr} {l : List Cond} (h : RConds w A l) : l.length ≤ 17592186044416 := by have := h.1; omega

structure Premise where
  cell : Int
  letters : List Int
abbrev premCells (c : Premise) (A : Option Addr) (a : Nat) : List Value := [.int .i64 c.cell, .slice A c.letters.length a]
def RPrem (w : World) (vs : List Value) (c : Premise) : Prop := ∃ A a, vs = premCells c A a ∧ RInts w A c.letters ∧ I64 c.cell
theorem RPrem.keeps : Keeps RPrem := fun _ _ _ _ hb ⟨A, a, e, h1, h2⟩ => ⟨A, a, e, h1.to hb, h2⟩
abbrev RPrems := RSl 2 RPrem
theorem RPrems.to {w w' : World} {A : Option Addr} {l : List Premise} (h : RPrems w A l) (hb : Ext w w') : RPrems w' A l := RSl.to RPrem.keeps h hb
theorem RPrems.premAt {w : World} {A : Option Addr} {l : List Premise} (h : RPrems w A l) (k : Nat) (hk : k < l.length) :
    ∃ ad B b, A = some ad ∧ ad.block < w.heap.size ∧ RInts w B l[k].letters ∧ I64 l[k].cell ∧
      w.cell? (ad.add (k * 2)) = some (.int .i64 l[k].cell) ∧ w.cell? ⟨(ad.add (k * 2)).block, (ad.add (k * 2)).off + 1, none⟩ = some (.slice B l[k].letters.length b) := by
  obtain ⟨ad, e, hb, hc⟩ := h.2 (by omega)
  obtain ⟨vs, hn, ⟨B, b, rfl, h1, h2⟩, hv⟩ := hc k hk
  refine ⟨ad, B, b, e, hb, h1, h2, by have := hv 0 (by simp); simpa using this, ?_⟩
  rw [← add_pos _ _ (by omega), add_of_add]; exact hv _ (by simp)
theorem RPrems.len {w : World} {A : Option Addr} {l : List Premise} (h : RPrems w A l) : l.length ≤ 17592186044416 := by have := h.1; omega

/-- A rule of deduction. -/
structure Rule where
  name : ByteArray
  level : Int
  cells : List ByteArray
  letters : List ByteArray
  conds : List Cond
  premises : List Premise
  cell : Int
  letter : Int
structure RPtr where
  a : Option Addr
  ac : Nat
  b : Option Addr
  bc : Nat
  c : Option Addr
  cc : Nat
  d : Option Addr
  dc : Nat
abbrev ruleCells (x : Rule) (p : RPtr) : List Value :=
  [.string x.name, .int .i64 x.level, .slice p.a x.cells.length p.ac, .slice p.b x.letters.length p.bc, .slice p.c x.conds.length p.cc, .slice p.d x.premises.length p.dc, .int .i64 x.cell, .int .i64 x.letter]
structure RulePs (w : World) (x : Rule) (p : RPtr) : Prop where
  cells : RStrs w p.a x.cells
  letters : RStrs w p.b x.letters
  conds : RConds w p.c x.conds
  premises : RPrems w p.d x.premises
  level : I64 x.level
  cell : I64 x.cell
  letter : I64 x.letter
  name : x.name.size ≤ maxLen
theorem RulePs.to {w w' : World} {x : Rule} {p : RPtr} (h : RulePs w x p) (hb : Ext w w') : RulePs w' x p :=
  ⟨h.cells.to hb, h.letters.to hb, h.conds.to hb, h.premises.to hb, h.level, h.cell, h.letter, h.name⟩
def RRule (w : World) (vs : List Value) (x : Rule) : Prop := ∃ p, vs = ruleCells x p ∧ RulePs w x p
theorem RRule.keeps : Keeps RRule := fun _ _ _ _ hb ⟨p, e, h⟩ => ⟨p, e, h.to hb⟩
abbrev RRules := RSl 8 RRule
theorem RRules.to {w w' : World} {A : Option Addr} {l : List Rule} (h : RRules w A l) (hb : Ext w w') : RRules w' A l := RSl.to RRule.keeps h hb
theorem RRules.len {w : World} {A : Option Addr} {l : List Rule} (h : RRules w A l) : l.length ≤ 17592186044416 := by have := h.1; omega
/-- What the cells of a rule at e hold. -/
def RuleAt (w : World) (e : Addr) (x : Rule) (p : RPtr) : Prop :=
  w.cell? e = some (.string x.name) ∧ w.cell? ⟨e.block, e.off + 1, none⟩ = some (.int .i64 x.level) ∧ w.cell? ⟨e.block, e.off + 2, none⟩ = some (.slice p.a x.cells.length p.ac) ∧ w.cell? ⟨e.block, e.off + 3, none⟩ = some (.slice p.b x.letters.length p.bc) ∧
  w.cell? ⟨e.block, e.off + 4, none⟩ = some (.slice p.c x.conds.length p.cc) ∧ w.cell? ⟨e.block, e.off + 5, none⟩ = some (.slice p.d x.premises.length p.dc) ∧ w.cell? ⟨e.block, e.off + 6, none⟩ = some (.int .i64 x.cell) ∧ w.cell? ⟨e.block, e.off + 7, none⟩ = some (.int .i64 x.letter)
theorem RuleAt.keep {w W : World} {e : Addr} {x : Rule} {p : RPtr} (hW : Ext w W) (he : e.block < w.heap.size) (h : RuleAt w e x p) : RuleAt W e x p := by
  obtain ⟨h0, h1, h2, h3, h4, h5, h6, h7⟩ := h
  exact ⟨cellE hW h0 he, cellE hW h1 he, cellE hW h2 he, cellE hW h3 he, cellE hW h4 he, cellE hW h5 he, cellE hW h6 he, cellE hW h7 he⟩
theorem RRules.ruleAt {w : World} {A : Option Addr} {l : List Rule} (h : RRules w A l) (k : Nat) (hk : k < l.length) :
    ∃ ad p, A = some ad ∧ ad.block < w.heap.size ∧ RulePs w l[k] p ∧ RuleAt w (ad.add (k * 8)) l[k] p := by
  obtain ⟨ad, e, hb, hc⟩ := h.2 (by omega)
  obtain ⟨vs, hn, ⟨p, rfl, h1⟩, hv⟩ := hc k hk
  have e0 : ∀ i, 0 < i → ad.add (k * 8 + i) = ⟨(ad.add (k * 8)).block, (ad.add (k * 8)).off + i, none⟩ := fun i hi => by rw [← add_of_add, add_pos _ _ hi]
  refine ⟨ad, p, e, hb, h1, by have := hv 0 (by simp); simpa using this, ?_, ?_, ?_, ?_, ?_, ?_, ?_⟩
  all_goals (rw [← e0 _ (by omega)]; exact hv _ (by simp))

/-- A library: its rules; the second part is never read. -/
abbrev libV (l : List Rule) (A : Option Addr) (a : Nat) (v : Value) : Value := .agg #[.slice A l.length a, v]
/-- An instance of a rule. -/
structure Inst where
  rule : Int
  cells : List Int
  symbols : List Int
structure IPtr where
  a : Option Addr
  ac : Nat
  b : Option Addr
  bc : Nat
abbrev instCells (i : Inst) (p : IPtr) : List Value := [.int .i64 i.rule, .slice p.a i.cells.length p.ac, .slice p.b i.symbols.length p.bc]
abbrev instV (i : Inst) (p : IPtr) : Value := .agg (instCells i p).toArray
structure RInstP (w : World) (i : Inst) (p : IPtr) : Prop where
  cells : RInts w p.a i.cells
  symbols : RInts w p.b i.symbols
  rule : I64 i.rule
  capc : i.cells.length ≤ p.ac
  caps : i.symbols.length ≤ p.bc
theorem RInstP.to {w w' : World} {i : Inst} {p : IPtr} (h : RInstP w i p) (hb : Ext w w') : RInstP w' i p := ⟨h.cells.to hb, h.symbols.to hb, h.rule, h.capc, h.caps⟩
def RInst (w : World) (vs : List Value) (i : Inst) : Prop := ∃ p, vs = instCells i p ∧ RInstP w i p
theorem RInst.keeps : Keeps RInst := fun _ _ _ _ hb ⟨p, e, h⟩ => ⟨p, e, h.to hb⟩
abbrev RInsts := RSl 3 RInst
theorem RInsts.to {w w' : World} {A : Option Addr} {l : List Inst} (h : RInsts w A l) (hb : Ext w w') : RInsts w' A l := RSl.to RInst.keeps h hb
theorem RInsts.len {w : World} {A : Option Addr} {l : List Inst} (h : RInsts w A l) : l.length ≤ 17592186044416 := by have := h.1; omega
end Go.Proofs.YtimkijmjbnmcbaaGreat
