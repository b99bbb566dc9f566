/- Contract: problems are checked (the program's text). -/
import Derived.Test.YtjinbjkbchnhpaaCe
namespace Go.Proofs.Ytjinbjkbchnhpaa
open Go.RowKit

/-- What a function value has to do for the elements of a list of constraints. -/
def AskCons (w : World) (k : Nat) (caps : Array Value) (p : Cons → Bool) (l : List Cons) : Prop :=
  ∀ W x A a B b, Ext w W → x ∈ l → RInts W A x.cells → RInts W B x.runs → x.ok → Calls Try.prog k (#[.agg (consCells x A a B b).toArray] ++ caps) W fun e W' => e = .returned (.bool (p x)) ∧ Ext W W'

set_option maxHeartbeats 400000 in
theorem indexFuncCons_ok (w : World) (A : Option Addr) (c : Nat) (l : List Cons) (h : RConss w A l) (k : Nat) (caps : Array Value) (p : Cons → Bool) (hcf : ∀ xs W, (callFunc k xs).run Try.prog W = .ok (.enter k xs) W) (ask : AskCons w k caps p l) :
    Calls Try.prog 48 #[.slice A l.length c, .func (.func k) #[] caps] w fun e w' => e = .returned (.int .i64 (idx p l)) ∧ Ext w w' := by
  have hl := h.len
  have Hask := hid ask; clear ask
  go_enter Try.func48, Try.ntmps48
  go_wp2_with fail
  go_loopw [8] (fun i wr => ∃ k : Nat, k ≤ l.length ∧ i = .int .i64 k ∧ Hid ((l.take k).any p = false) ∧ Ext w wr) (fun i _ => l.length - (intOf i).toNat)
  case atStart => exact ⟨0, Nat.zero_le _, rfl, rfl, Ext.rfl' _⟩
  case round =>
    obtain ⟨j, hj, rfl, hno, hext⟩ := hrel
    by_cases hlt : j < l.length
    · obtain ⟨ad, B, b, C, cc, rfl, _, hB, hC, hok, h0, h1, h2, h3, h4, h5, h6, h7, h8⟩ := (h.to hext).consLoad j hlt
      have hok' := hid hok; clear hok
      go_wp2_with fail
      refine (Hask.out wr l[j] B b C cc hext (List.getElem_mem _) hB hC hok'.out).mono ?_
      rintro e w1 ⟨rfl, hb⟩
      have hext1 := Ext.tr hext hb
      clear h0 h1 h2 h3 h4 h5 h6 h7 h8
      go_wp2_with fail
      · have hz : p l[j] = true := by assumption
        go_ret
        exact ⟨ret_int (idx_found hlt hno hz).symm, hext1⟩
      · have hz : p l[j] = false := by assumption
        go_roundw
        case rel => exact ⟨j + 1, by omega, by go_num, any_on hlt hno hz, hext1⟩
        case measure => simp [intOf]; omega
    · go_wp2_with fail
      go_ret
      exact ⟨ret_int (idx_none (any_end hno hlt)).symm, hext⟩

set_option maxHeartbeats 400000 in
theorem containsFuncCons_ok (w : World) (A : Option Addr) (c : Nat) (l : List Cons) (h : RConss w A l) (k : Nat) (caps : Array Value) (p : Cons → Bool) (hcf : ∀ xs W, (callFunc k xs).run Try.prog W = .ok (.enter k xs) W) (ask : AskCons w k caps p l) :
    Calls Try.prog 37 #[.slice A l.length c, .func (.func k) #[] caps] w fun e w' => e = .returned (.bool (l.any p)) ∧ Ext w w' := by
  have Hask := hid ask; clear ask
  go_enter Try.func37, Try.ntmps37
  go_wp2_with fail
  refine (indexFuncCons_ok w A c l h k caps p hcf Hask.out).mono ?_
  rintro e w1 ⟨rfl, hb⟩
  go_wp2_with fail
  go_ret
  exact ⟨ret_bool (idx_nonneg p l), hb⟩

/-- A box of the problem in a world. -/
def ProbBox (W : World) (g : Nat) (q : Problem) (p : PPtr) : Prop :=
  W.cell? ⟨g, 0, none⟩ = some (.int .i64 q.cells) ∧ W.cell? ⟨g, 1, none⟩ = some (.int .i64 q.symbols) ∧ W.cell? ⟨g, 2, none⟩ = some (.slice p.a q.values.length p.ac) ∧ W.cell? ⟨g, 3, none⟩ = some (.slice p.b q.neighbors.length p.bc) ∧ W.cell? ⟨g, 4, none⟩ = some (.slice p.c q.cons.length p.cc)
theorem probBox {W0 W : World} {q : Problem} {p : PPtr} {g : Nat} (h : Ext (W0.alloc (probO q p)) W) (hg : W0.heap.size = g) : ProbBox W g q p :=
  ⟨boxE h hg 0 _ rfl, boxE h hg 1 _ rfl, boxE h hg 2 _ rfl, boxE h hg 3 _ rfl, boxE h hg 4 _ rfl⟩
def ConsBox (W : World) (g : Nat) (c : Cons) (A : Option Addr) (a : Nat) (B : Option Addr) (b : Nat) : Prop :=
  W.cell? ⟨g, 0, none⟩ = some (.int .i64 c.kind) ∧ W.cell? ⟨g, 1, none⟩ = some (.slice A c.cells.length a) ∧ W.cell? ⟨g, 2, none⟩ = some (.int .i64 c.set) ∧ W.cell? ⟨g, 3, none⟩ = some (.int .i64 c.other) ∧ W.cell? ⟨g, 4, none⟩ = some (.int .i64 c.lo) ∧ W.cell? ⟨g, 5, none⟩ = some (.int .i64 c.hi) ∧ W.cell? ⟨g, 6, none⟩ = some (.slice B c.runs.length b) ∧ W.cell? ⟨g, 7, none⟩ = some (.int .i64 c.rule) ∧ W.cell? ⟨g, 8, none⟩ = some (.int .i64 c.at_)
theorem consBox {W0 W : World} {c : Cons} {A : Option Addr} {a : Nat} {B : Option Addr} {b : Nat} {g : Nat} (h : Ext (W0.alloc (consO c A a B b)) W) (hg : W0.heap.size = g) : ConsBox W g c A a B b :=
  ⟨boxE h hg 0 _ rfl, boxE h hg 1 _ rfl, boxE h hg 2 _ rfl, boxE h hg 3 _ rfl, boxE h hg 4 _ rfl, boxE h hg 5 _ rfl, boxE h hg 6 _ rfl, boxE h hg 7 _ rfl, boxE h hg 8 _ rfl⟩

set_option maxHeartbeats 400000 in
theorem pvalid1_ok (w : World) (q : Problem) (p : PPtr) (g : Nat) (c : Cons) (A : Option Addr) (a : Nat) (B : Option Addr) (b : Nat) (hg : g < w.heap.size) (hbox : ProbBox w g q p) (hA : RInts w A c.cells) (hB : RInts w B c.runs) (hok : c.ok) (h1 : 1 ≤ q.cells) (h2 : q.cells ≤ 256) (h3 : 1 ≤ q.symbols) (h4 : q.symbols ≤ 16) :
    Calls Try.prog 38 #[.agg (consCells c A a B b).toArray, .pointer (some ⟨g, 0, none⟩)] w fun e w' => e = .returned (.bool (!fineB q.cells q.symbols c)) ∧ Ext w w' := by
  obtain ⟨f0, f1, f2, f3, f4⟩ := hbox
  have hne : w.heap.size ≠ g := by omega
  go_enter Try.func38, Try.ntmps38
  go_wp2_with fail
  refine (pfine_ok _ q p c A a B b (hA.to ((Ext.rfl' _).al _)) (hB.to ((Ext.rfl' _).al _)) hok h1 h2 h3 h4).mono ?_
  rintro e w1 ⟨rfl, hb⟩
  go_wp2_with fail
  go_ret
  exact ⟨rfl, ((Ext.rfl' _).al _).tr hb⟩

/-- A problem is valid. -/
def validB (q : Problem) : Bool :=
  decide (1 ≤ q.cells ∧ q.cells ≤ 256 ∧ 1 ≤ q.symbols ∧ q.symbols ≤ 16 ∧ (q.values.length : Int) = q.symbols ∧ (q.neighbors.length : Int) = q.cells ∧ q.cons.length ≤ 4096) && inB 0 99 q.values && gOk q.neighbors && q.cons.all (fineB q.cells q.symbols)
def validE (q : Problem) : Int := if validB q then 0 else 191
theorem validE_bad {q : Problem} (h : validB q = false) : validE q = 191 := by simp [validE, h]
theorem gErr_ne (g : List (List Int)) : (gErr g != 0) = !gOk g := by unfold gErr; cases gOk g <;> decide

set_option maxRecDepth 100000 in
set_option maxHeartbeats 2000000 in
theorem pvalid_ok (w : World) (q : Problem) (p : PPtr) (h : RProb w q p) :
    Calls Try.prog 25 #[probV q p] w fun e w' => e = .returned (.int .i64 (validE q)) ∧ Ext w w' := by
  have hv := h.values.len
  have hn := h.neighbors.len
  have hc := h.cons.len
  have x0 := (Ext.rfl' w).al (probO q p)
  have hge := gErr_ne q.neighbors
  go_enter Try.func25, Try.ntmps25
  go_wp2_with (first
    | (go_at_call 35; refine (within_ok _ _ _ _ (h.values.to x0) _ _).mono ?_; rintro e w1 ⟨rfl, hb1⟩; obtain ⟨f0, f1, f2, f3, f4⟩ := probBox hb1 rfl)
    | (go_at_call 36; refine (gcheck_ok _ _ _ _ (h.neighbors.to (x0.tr hb1))).mono ?_; rintro e w2 ⟨rfl, rfl⟩)
    | (go_at_call 37; refine (containsFuncCons_ok _ _ _ q.cons (h.cons.to (x0.tr hb1)) 38 #[.pointer (some ⟨w.heap.size, 0, none⟩)] (fun c => !fineB q.cells q.symbols c) (fun _ _ => by kernel_rfl) (fun W x A a B b hW _ hA hB hok => pvalid1_ok W q p w.heap.size x A a B b (hW.lt (hb1.lt (by simp))) (probBox (hb1.tr hW) rfl) hA hB hok (by omega) (by omega) (by omega) (by omega))).mono ?_; rintro e w3 ⟨rfl, hb3⟩))
  all_goals go_ret
  all_goals refine ⟨ret_int ?_, by first | exact (x0.tr hb1).tr hb3 | exact x0.tr hb1 | exact x0⟩
  all_goals go_light
  all_goals symm
  all_goals first
    | exact validE_bad (by grind [validB])
    | (unfold validE; rw [if_pos (by grind [validB])])
end Go.Proofs.Ytjinbjkbchnhpaa
