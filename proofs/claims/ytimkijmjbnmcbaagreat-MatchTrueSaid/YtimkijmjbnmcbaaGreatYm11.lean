/- Contract: constraints of problems are checked (the program's text). Contract: problems are checked (the program's text). Contract: problems are checked (the reference's text). Contracts: the first position, in both texts. Contracts: positions are checked, in both texts; bits; dead positions. Contracts: small functions on positions, in both texts. Contracts: what a cell can have is changed, in both texts. Contracts: Remove and Fix of the reference; Meet; whether a grid agrees. Plain laws of positions: what they have in common. No code is walked here. -/
import Derived.Deep.DeepCutAuto
import Derived.Deep.CutBlock
import Derived.Deep.Light
import Derived.Test.YtimkijmjbnmcbaaGreatYm7
import Derived.Test.YtimkijmjbnmcbaaGreatYm4
import Derived.Test.YtimkijmjbnmcbaaGreatYm10
import Derived.Test.YtimkijmjbnmcbaaGreatYm5
import Derived.Test.YtimkijmjbnmcbaaGreatYm6
import Derived.Test.YtimkijmjbnmcbaaGreatYm1
namespace Go.Proofs.YtimkijmjbnmcbaaGreat
open Go.RowKit

set_option maxRecDepth 100000 in
set_option maxHeartbeats 2000000 in
theorem pfine_ok (w : World) (q : Problem) (p : PPtr) (c : Cons) (A : Option Addr) (a : Nat) (B : Option Addr) (b : Nat) (hA : RInts w A c.cells) (hB : RInts w B c.runs) (hok : c.ok) (h1 : 1 ≤ q.cells) (h2 : q.cells ≤ 256) (h3 : 1 ≤ q.symbols) (h4 : q.symbols ≤ 16) :
    Calls Tryz.prog 96 #[probV q p, .agg (consCells c A a B b).toArray] w fun e w' => e = .returned (.bool (fineB q.cells q.symbols c)) ∧ Ext w w' := by
  have hl := hA.len
  have hz := zero256
  go_enter Tryz.func96, Tryz.ntmps96
  go_wp2_with fail
  go_loopw [11] (fun i wr => ∃ (k : Nat) (Z : Array Value), k ≤ c.cells.length ∧ i = .int .i64 k ∧ Hid ((List.range k).all (cellOk q.cells c) = true) ∧ SeenTab Z c.cells k ∧ Blk wr (w.heap.size + 1 + 1) 126 Z ∧ 
    Ext ((w.alloc (.cells #[.int .i64 q.cells, .int .i64 q.symbols, .slice p.a q.values.length p.ac, .slice p.b q.neighbors.length p.bc, .slice p.c q.cons.length p.cc] 26)).alloc (.cells (consCells c A a B b).toArray 58)) wr) (fun i _ => c.cells.length - (intOf i).toNat)
  case atStart => exact ⟨0, zeros256, Nat.zero_le _, rfl, rfl, seen_zero _, by have := Blk.new ((w.alloc (.cells #[.int .i64 q.cells, .int .i64 q.symbols, .slice p.a q.values.length p.ac, .slice p.b q.neighbors.length p.bc, .slice p.c q.cons.length p.cc] 26)).alloc (.cells (consCells c A a B b).toArray 58)) 126 zeros256; rw [World.size_alloc, World.size_alloc] at this; exact this, (Ext.rfl' _).al _⟩
  case round =>
    obtain ⟨k, Z, hk, rfl, hno, hsee, hblk, hext⟩ := hrel
    have hx1 := ((Ext.rfl' _).al _).tr hext
    have hx0 := ((Ext.rfl' w).al _).tr hx1
    have f0 := boxE hx1 rfl 0 (.int .i64 q.cells) rfl
    have f1 := boxE hx1 rfl 1 (.int .i64 q.symbols) rfl
    have e1 := World.size_alloc w (.cells #[.int .i64 q.cells, .int .i64 q.symbols, .slice p.a q.values.length p.ac, .slice p.b q.neighbors.length p.bc, .slice p.c q.cons.length p.cc] 26)
    have g0 := boxE hext e1 0 (.int .i64 c.kind) rfl
    have g1 := boxE hext e1 1 (.slice A c.cells.length a) rfl
    have g2 := boxE hext e1 2 (.int .i64 c.set) rfl
    have g3 := boxE hext e1 3 (.int .i64 c.other) rfl
    have g4 := boxE hext e1 4 (.int .i64 c.lo) rfl
    have g5 := boxE hext e1 5 (.int .i64 c.hi) rfl
    have g6 := boxE hext e1 6 (.slice B c.runs.length b) rfl
    clear e1
    by_cases hlt : k < c.cells.length
    · obtain ⟨ad, rfl, _, hc, _⟩ := (hA.to hx0).num (by omega)
      have hn : 0 ≤ num c.cells k → num c.cells k < q.cells → wr.cell? ⟨w.heap.size + 1 + 1, (num c.cells k).toNat, none⟩ = some (.bool (met c.cells k)) := by
        intro ha hb
        rw [hblk.cell, hsee _ (by omega)]
        congr 2
        unfold met
        congr 1
        funext i
        congr 1
        omega
      have hf : wr.frozen? ⟨w.heap.size + 1 + 1, (num c.cells k).toNat, none⟩ = false := hblk.frozen _
      go_wp2_with fail
      all_goals first
        | (go_ret; exact ⟨ret_bool (by have h : (List.range c.cells.length).all (cellOk q.cells c) = false := rall_bad hlt (by go_light; grind [cellOk]); simp [fineB, h]), hx0⟩)
        | exact ⟨⟨k + 1, _, by omega, by go_num, rall_on hno (by go_light; grind [cellOk]), seen_set hsee (by omega) (by omega), hblk.set _ _, hext.set (by simp) _⟩, by simp [intOf]; omega⟩
    · have hall := hid (rall_end hno hk hlt)
      clear hno hsee hblk hl
      go_upto_block 2 with fail
      go_cut [44] (fun _ wx => wx = wr ∧ Hid (kindOk q.cells c = true))
      case first =>
        go_wp2_with fail
        all_goals first
          | (go_ret; exact ⟨ret_bool (by have h : kindOk q.cells c = false := by go_light; grind [kindOk]
                                         simp [fineB, h]), hx0⟩)
          | (go_meet; exact ⟨rfl, by have h : kindOk q.cells c = true := by go_light; grind [kindOk]
                                     exact h⟩)
      case rest =>
        obtain ⟨rfl, hkind⟩ := hcut
        clear f0 f1 g0 g1 g2 g3 g4 g5 g6 hx1 hk hlt
        go_wp2_with fail
        have hM : IntKind.i64.wrap (IntKind.i64.wrap (2 ^ q.symbols.toNat) - 1) = 2 ^ q.symbols.toNat - 1 := mask_eq q.symbols h3 h4
        have HM := hid hM; clear hM
        refine wp_region_ext Ext (fun W => Ext wc W ∧ FineHeld w q c B b W) (fun
          | 4 => some fun W v => ∃ A, v = .slice A 2 2 ∧ RInts W A [c.set, c.other]
          | 9 => some fun _ v => v = .bool (inB 0 (2 ^ q.symbols.toNat - 1) [c.set, c.other])
          | 15 => some fun W v => ∃ A, v = .slice A 2 2 ∧ RInts W A [c.lo, c.hi]
          | 16 => some fun _ v => v = .bool (inB 0 65536 [c.lo, c.hi])
          | 27 => some fun _ v => v = .bool (inB 1 256 c.runs)
          | _ => none) (by kernel_rfl) (by kernel_rfl) ?_ ?_ ?_
        · refine ⟨Ext.rfl', fun _ _ _ h k => h.tr k, fun W W' h hh => ⟨hh.1.tr h, fineHeld (hext.tr (hh.1.tr h))⟩, ?_⟩
          intro i F hF W W' v hl hv
          match i, hF with
          | 4, hF => cases hF; obtain ⟨A, e, h⟩ := hv; exact ⟨A, e, h.to hl⟩
          | 9, hF => cases hF; exact hv
          | 15, hF => cases hF; obtain ⟨A, e, h⟩ := hv; exact ⟨A, e, h.to hl⟩
          | 16, hF => cases hF; exact hv
          | 27, hF => cases hF; exact hv
        · exact ⟨Ext.dr (Ext.rfl' _), fineHeld (hext.tr (Ext.dr (Ext.rfl' _)))⟩
        repeat (first | (refine wpE_skipK rfl (fun K hK => ?_); go_simp; apply hK; clear hK K) | (refine wpE_detK rfl rfl (fun K hK => ?_); apply Exists.intro; apply And.intro; (focus (rintro W ⟨⟨hx, h1, h2, h3, h4, h5, h6⟩, -⟩; go_simp; all_goals rfl)); go_simp; apply hK; clear hK K))
        refine wpE_newK _ rfl rfl ?_ ?_
        · rintro W ⟨⟨hx, h1, h2, h3, h4, h5, h6⟩, -⟩
          go_simp
          exact ⟨(Ext.rfl' _).al _, _, rfl, RInts.two hok.2.1 hok.2.2.1⟩
        rintro v4 - K hK
        go_simp; apply hK; clear hK K
        repeat (first | (refine wpE_skipK rfl (fun K hK => ?_); go_simp; apply hK; clear hK K) | (refine wpE_detK rfl rfl (fun K hK => ?_); apply Exists.intro; apply And.intro; (focus (rintro W ⟨⟨hx, h1, h2, h3, h4, h5, h6⟩, -⟩; go_simp; all_goals rfl)); go_simp; apply hK; clear hK K))
        refine wpE_newK _ rfl rfl ?_ ?_
        · rintro W ⟨⟨hx, h1, h2, h3, h4, h5, h6⟩, hG⟩
          obtain ⟨A4, rfl, hr4⟩ : ∃ A, v4 = .slice A 2 2 ∧ RInts W A [c.set, c.other] := (hG ⟨4, .data⟩ (by simp) rfl).2 rfl
          go_simp
          rw [HM.out]
          exact ⟨Ext.rfl' _, (within_ok _ _ _ [c.set, c.other] hr4 _ _).mono fun e W' ⟨he, hb⟩ => ⟨_, he, hb, rfl⟩⟩
        rintro _ ⟨_, rfl⟩ K hK
        go_simp; apply hK; clear hK K
        cases hb1 : inB 0 (2 ^ q.symbols.toNat - 1) [c.set, c.other]
        · repeat (first | (refine wpE_skipK rfl (fun K hK => ?_); go_simp; apply hK; clear hK K) | (refine wpE_detK rfl rfl (fun K hK => ?_); apply Exists.intro; apply And.intro; (focus (rintro W ⟨⟨hx, h1, h2, h3, h4, h5, h6⟩, -⟩; go_simp; all_goals rfl)); go_simp; apply hK; clear hK K))
          apply wpE_nil
          rintro W ⟨⟨hx, -⟩, -⟩
          go_wp2_with fail
          go_ret
          exact ⟨ret_bool (by simp [fineB, numsOk, hb1]), hx0.tr hx⟩
        repeat (first | (refine wpE_skipK rfl (fun K hK => ?_); go_simp; apply hK; clear hK K) | (refine wpE_detK rfl rfl (fun K hK => ?_); apply Exists.intro; apply And.intro; (focus (rintro W ⟨⟨hx, h1, h2, h3, h4, h5, h6⟩, -⟩; go_simp; all_goals rfl)); go_simp; apply hK; clear hK K))
        refine wpE_newK _ rfl rfl ?_ ?_
        · rintro W ⟨⟨hx, h1, h2, h3, h4, h5, h6⟩, -⟩
          go_simp
          exact ⟨(Ext.rfl' _).al _, _, rfl, RInts.two hok.2.2.2.1 hok.2.2.2.2.1⟩
        rintro v15 - K hK
        go_simp; apply hK; clear hK K
        repeat (first | (refine wpE_skipK rfl (fun K hK => ?_); go_simp; apply hK; clear hK K) | (refine wpE_detK rfl rfl (fun K hK => ?_); apply Exists.intro; apply And.intro; (focus (rintro W ⟨⟨hx, h1, h2, h3, h4, h5, h6⟩, -⟩; go_simp; all_goals rfl)); go_simp; apply hK; clear hK K))
        refine wpE_newK _ rfl rfl ?_ ?_
        · rintro W ⟨⟨hx, h1, h2, h3, h4, h5, h6⟩, hG⟩
          obtain ⟨A4, rfl, hr4⟩ : ∃ A, v15 = .slice A 2 2 ∧ RInts W A [c.lo, c.hi] := (hG ⟨15, .data⟩ (by simp) rfl).2 rfl
          go_simp
          exact ⟨Ext.rfl' _, (within_ok _ _ _ [c.lo, c.hi] hr4 _ _).mono fun e W' ⟨he, hb⟩ => ⟨_, he, hb, rfl⟩⟩
        rintro _ ⟨_, rfl⟩ K hK
        go_simp; apply hK; clear hK K
        cases hb2 : inB 0 65536 [c.lo, c.hi]
        · repeat (first | (refine wpE_skipK rfl (fun K hK => ?_); go_simp; apply hK; clear hK K) | (refine wpE_detK rfl rfl (fun K hK => ?_); apply Exists.intro; apply And.intro; (focus (rintro W ⟨⟨hx, h1, h2, h3, h4, h5, h6⟩, -⟩; go_simp; all_goals rfl)); go_simp; apply hK; clear hK K))
          apply wpE_nil
          rintro W ⟨⟨hx, -⟩, -⟩
          go_wp2_with fail
          go_ret
          exact ⟨ret_bool (by simp [fineB, numsOk, hb2]), hx0.tr hx⟩
        by_cases hb3 : c.runs.length ≤ 8
        · have hd3 : decide ((c.runs.length : Int) ≤ 8) = true := by simp; omega
          repeat (first | (refine wpE_skipK rfl (fun K hK => ?_); go_simp; apply hK; clear hK K) | (refine wpE_detK rfl rfl (fun K hK => ?_); apply Exists.intro; apply And.intro; (focus (rintro W ⟨⟨hx, h1, h2, h3, h4, h5, h6⟩, -⟩; go_simp; all_goals rfl)); go_simp; apply hK; clear hK K))
          refine wpE_newK _ rfl rfl ?_ ?_
          · rintro W ⟨⟨hx, h1, h2, h3, h4, h5, h6⟩, -⟩
            go_simp
            exact ⟨Ext.rfl' _, (within_ok _ _ _ c.runs (hB.to (hx0.tr hx)) _ _).mono fun e W' ⟨he, hb⟩ => ⟨_, he, hb, rfl⟩⟩
          rintro _ ⟨_, rfl⟩ K hK
          go_simp; apply hK; clear hK K
          repeat (first | (refine wpE_skipK rfl (fun K hK => ?_); go_simp; apply hK; clear hK K) | (refine wpE_detK rfl rfl (fun K hK => ?_); apply Exists.intro; apply And.intro; (focus (rintro W ⟨⟨hx, h1, h2, h3, h4, h5, h6⟩, -⟩; go_simp; all_goals rfl)); go_simp; apply hK; clear hK K))
          apply wpE_nil
          rintro W ⟨⟨hx, -⟩, -⟩
          go_wp2_with fail
          go_ret
          exact ⟨ret_bool (by have := hall.out; have := hkind.out; simp [fineB, numsOk, *]), hx0.tr hx⟩
        · have hd3 : decide ((c.runs.length : Int) ≤ 8) = false := by simp; omega
          repeat (first | (refine wpE_skipK rfl (fun K hK => ?_); go_simp; apply hK; clear hK K) | (refine wpE_detK rfl rfl (fun K hK => ?_); apply Exists.intro; apply And.intro; (focus (rintro W ⟨⟨hx, h1, h2, h3, h4, h5, h6⟩, -⟩; go_simp; all_goals rfl)); go_simp; apply hK; clear hK K))
          apply wpE_nil
          rintro W ⟨⟨hx, -⟩, -⟩
          go_wp2_with fail
          go_ret
          exact ⟨ret_bool (by simp [fineB, numsOk, hb3]), hx0.tr hx⟩
end Go.Proofs.YtimkijmjbnmcbaaGreat
namespace Go.Proofs.YtimkijmjbnmcbaaGreat
open Go.RowKit

/-- What a function value has to do for the elements of a list of constraints. -/
def AskCons (w : World) (k : Nat) (caps : Array Value) (p : Cons → Bool) (l : List Cons) : Prop :=
  ∀ W x A a B b, Ext w W → x ∈ l → RInts W A x.cells → RInts W B x.runs → x.ok → Calls Tryz.prog k (#[.agg (consCells x A a B b).toArray] ++ caps) W fun e W' => e = .returned (.bool (p x)) ∧ Ext W W'

set_option maxHeartbeats 400000 in
theorem indexFuncCons_ok (w : World) (A : Option Addr) (c : Nat) (l : List Cons) (h : RConss w A l) (k : Nat) (caps : Array Value) (p : Cons → Bool) (hcf : ∀ xs W, (callFunc k xs).run Tryz.prog W = .ok (.enter k xs) W) (ask : AskCons w k caps p l) :
    Calls Tryz.prog 104 #[.slice A l.length c, .func (.func k) #[] caps] w fun e w' => e = .returned (.int .i64 (idx p l)) ∧ Ext w w' := by
  have hl := h.len
  have Hask := hid ask; clear ask
  go_enter Tryz.func104, Tryz.ntmps104
  go_wp2_with fail
  go_loopw [8] (fun i wr => ∃ k : Nat, k ≤ l.length ∧ i = .int .i64 k ∧ Hid ((l.take k).any p = false) ∧ Ext w wr) (fun i _ => l.length - (intOf i).toNat)
  case atStart => exact ⟨0, Nat.zero_le _, rfl, rfl, Ext.rfl' _⟩
  case round =>
    obtain ⟨j, hj, rfl, hno, hext⟩ := hrel
    by_cases hlt : j < l.length
    · obtain ⟨ad, B, b, C, cc, rfl, _, hB, hC, hok, h0, h1, h2, h3, h4, h5, h6, h7, h8⟩ := (h.to hext).consLoad j hlt
      have hok' := hid hok; clear hok
      go_wp2_with fail
      refine (Hask.out wr l[j] B b C cc hext (List.getElem_mem _) hB hC hok'.out).mono ?_
      rintro e w1 ⟨rfl, hb⟩
      have hext1 := Ext.tr hext hb
      clear h0 h1 h2 h3 h4 h5 h6 h7 h8
      go_wp2_with fail
      · have hz : p l[j] = true := by assumption
        go_ret
        exact ⟨ret_int (idx_found hlt hno hz).symm, hext1⟩
      · have hz : p l[j] = false := by assumption
        go_roundw
        case rel => exact ⟨j + 1, by omega, by go_num, any_on hlt hno hz, hext1⟩
        case measure => simp [intOf]; omega
    · go_wp2_with fail
      go_ret
      exact ⟨ret_int (idx_none (any_end hno hlt)).symm, hext⟩

set_option maxHeartbeats 400000 in
theorem containsFuncCons_ok (w : World) (A : Option Addr) (c : Nat) (l : List Cons) (h : RConss w A l) (k : Nat) (caps : Array Value) (p : Cons → Bool) (hcf : ∀ xs W, (callFunc k xs).run Tryz.prog W = .ok (.enter k xs) W) (ask : AskCons w k caps p l) :
    Calls Tryz.prog 94 #[.slice A l.length c, .func (.func k) #[] caps] w fun e w' => e = .returned (.bool (l.any p)) ∧ Ext w w' := by
  have Hask := hid ask; clear ask
  go_enter Tryz.func94, Tryz.ntmps94
  go_wp2_with fail
  refine (indexFuncCons_ok w A c l h k caps p hcf Hask.out).mono ?_
  rintro e w1 ⟨rfl, hb⟩
  go_wp2_with fail
  go_ret
  exact ⟨ret_bool (idx_nonneg p l), hb⟩

/-- A box of the problem in a world. -/
def ProbBox (W : World) (g : Nat) (q : Problem) (p : PPtr) : Prop :=
  W.cell? ⟨g, 0, none⟩ = some (.int .i64 q.cells) ∧ W.cell? ⟨g, 1, none⟩ = some (.int .i64 q.symbols) ∧ W.cell? ⟨g, 2, none⟩ = some (.slice p.a q.values.length p.ac) ∧ W.cell? ⟨g, 3, none⟩ = some (.slice p.b q.neighbors.length p.bc) ∧ W.cell? ⟨g, 4, none⟩ = some (.slice p.c q.cons.length p.cc)
theorem probBox {W0 W : World} {q : Problem} {p : PPtr} {g : Nat} (h : Ext (W0.alloc (probO q p)) W) (hg : W0.heap.size = g) : ProbBox W g q p :=
  ⟨boxE h hg 0 _ rfl, boxE h hg 1 _ rfl, boxE h hg 2 _ rfl, boxE h hg 3 _ rfl, boxE h hg 4 _ rfl⟩
def ConsBox (W : World) (g : Nat) (c : Cons) (A : Option Addr) (a : Nat) (B : Option Addr) (b : Nat) : Prop :=
  W.cell? ⟨g, 0, none⟩ = some (.int .i64 c.kind) ∧ W.cell? ⟨g, 1, none⟩ = some (.slice A c.cells.length a) ∧ W.cell? ⟨g, 2, none⟩ = some (.int .i64 c.set) ∧ W.cell? ⟨g, 3, none⟩ = some (.int .i64 c.other) ∧ W.cell? ⟨g, 4, none⟩ = some (.int .i64 c.lo) ∧ W.cell? ⟨g, 5, none⟩ = some (.int .i64 c.hi) ∧ W.cell? ⟨g, 6, none⟩ = some (.slice B c.runs.length b) ∧ W.cell? ⟨g, 7, none⟩ = some (.int .i64 c.rule) ∧ W.cell? ⟨g, 8, none⟩ = some (.int .i64 c.at_)
theorem consBox {W0 W : World} {c : Cons} {A : Option Addr} {a : Nat} {B : Option Addr} {b : Nat} {g : Nat} (h : Ext (W0.alloc (consO c A a B b)) W) (hg : W0.heap.size = g) : ConsBox W g c A a B b :=
  ⟨boxE h hg 0 _ rfl, boxE h hg 1 _ rfl, boxE h hg 2 _ rfl, boxE h hg 3 _ rfl, boxE h hg 4 _ rfl, boxE h hg 5 _ rfl, boxE h hg 6 _ rfl, boxE h hg 7 _ rfl, boxE h hg 8 _ rfl⟩

set_option maxHeartbeats 400000 in
theorem pvalid1_ok (w : World) (q : Problem) (p : PPtr) (g : Nat) (c : Cons) (A : Option Addr) (a : Nat) (B : Option Addr) (b : Nat) (hg : g < w.heap.size) (hbox : ProbBox w g q p) (hA : RInts w A c.cells) (hB : RInts w B c.runs) (hok : c.ok) (h1 : 1 ≤ q.cells) (h2 : q.cells ≤ 256) (h3 : 1 ≤ q.symbols) (h4 : q.symbols ≤ 16) :
    Calls Tryz.prog 95 #[.agg (consCells c A a B b).toArray, .pointer (some ⟨g, 0, none⟩)] w fun e w' => e = .returned (.bool (!fineB q.cells q.symbols c)) ∧ Ext w w' := by
  obtain ⟨f0, f1, f2, f3, f4⟩ := hbox
  have hne : w.heap.size ≠ g := by omega
  go_enter Tryz.func95, Tryz.ntmps95
  go_wp2_with fail
  refine (pfine_ok _ q p c A a B b (hA.to ((Ext.rfl' _).al _)) (hB.to ((Ext.rfl' _).al _)) hok h1 h2 h3 h4).mono ?_
  rintro e w1 ⟨rfl, hb⟩
  go_wp2_with fail
  go_ret
  exact ⟨rfl, ((Ext.rfl' _).al _).tr hb⟩

/-- A problem is valid. -/
def validB (q : Problem) : Bool :=
  decide (1 ≤ q.cells ∧ q.cells ≤ 256 ∧ 1 ≤ q.symbols ∧ q.symbols ≤ 16 ∧ (q.values.length : Int) = q.symbols ∧ (q.neighbors.length : Int) = q.cells ∧ q.cons.length ≤ 4096) && inB 0 99 q.values && gOk q.neighbors && q.cons.all (fineB q.cells q.symbols)
def validE (q : Problem) : Int := if validB q then 0 else 191
theorem validE_bad {q : Problem} (h : validB q = false) : validE q = 191 := by simp [validE, h]
theorem gErr_ne (g : List (List Int)) : (gErr g != 0) = !gOk g := by unfold gErr; cases gOk g <;> decide

set_option maxRecDepth 100000 in
set_option maxHeartbeats 2000000 in
theorem pvalid_ok (w : World) (q : Problem) (p : PPtr) (h : RProb w q p) :
    Calls Tryz.prog 72 #[probV q p] w fun e w' => e = .returned (.int .i64 (validE q)) ∧ Ext w w' := by
  have hv := h.values.len
  have hn := h.neighbors.len
  have hc := h.cons.len
  have x0 := (Ext.rfl' w).al (probO q p)
  have hge := gErr_ne q.neighbors
  go_enter Tryz.func72, Tryz.ntmps72
  go_wp2_with (first
    | (go_at_call 92; refine (within_ok _ _ _ _ (h.values.to x0) _ _).mono ?_; rintro e w1 ⟨rfl, hb1⟩; obtain ⟨f0, f1, f2, f3, f4⟩ := probBox hb1 rfl)
    | (go_at_call 93; refine (gcheck_ok _ _ _ _ (h.neighbors.to (x0.tr hb1))).mono ?_; rintro e w2 ⟨rfl, rfl⟩)
    | (go_at_call 94; refine (containsFuncCons_ok _ _ _ q.cons (h.cons.to (x0.tr hb1)) 95 #[.pointer (some ⟨w.heap.size, 0, none⟩)] (fun c => !fineB q.cells q.symbols c) (fun _ _ => by kernel_rfl) (fun W x A a B b hW _ hA hB hok => pvalid1_ok W q p w.heap.size x A a B b (hW.lt (hb1.lt (by simp))) (probBox (hb1.tr hW) rfl) hA hB hok (by omega) (by omega) (by omega) (by omega))).mono ?_; rintro e w3 ⟨rfl, hb3⟩))
  all_goals go_ret
  all_goals refine ⟨ret_int ?_, by first | exact (x0.tr hb1).tr hb3 | exact x0.tr hb1 | exact x0⟩
  all_goals go_light
  all_goals symm
  all_goals first
    | exact validE_bad (by grind [validB])
    | (unfold validE; rw [if_pos (by grind [validB])])
end Go.Proofs.YtimkijmjbnmcbaaGreat
namespace Go.Proofs.YtimkijmjbnmcbaaGreat
open Go.RowKit

set_option maxRecDepth 100000 in
set_option maxHeartbeats 2000000 in
theorem valid19_ok (w : World) (q : Problem) (p : PPtr) (h : RProb w q p) :
    Calls Tryz.prog 20 #[probV q p] w fun e w' => e = .returned (.int .i64 (validE q)) ∧ Ext w w' := by
  have hv := h.values.len
  have hn := h.neighbors.len
  have hc := h.cons.len
  have x0 := (Ext.rfl' w).al (probO q p)
  have hge := gErr_ne q.neighbors
  go_enter Tryz.func20, Tryz.ntmps20
  go_wp2_with (first
    | (go_at_call 40; refine (between19_ok _ _ _ _ (h.values.to x0) _ _).mono ?_; rintro e w1 ⟨rfl, rfl⟩)
    | (go_at_call 41; refine (check12_ok _ _ _ _ (h.neighbors.to x0)).mono ?_; rintro e w2 ⟨rfl, rfl⟩))
  all_goals first
    | (go_ret
       refine ⟨ret_int ?_, x0⟩
       go_light
       symm
       exact validE_bad (by grind [validB]))
    | skip
  have hb : Hid ((decide (1 ≤ q.cells ∧ q.cells ≤ 256 ∧ 1 ≤ q.symbols ∧ q.symbols ≤ 16 ∧ (q.values.length : Int) = q.symbols ∧ (q.neighbors.length : Int) = q.cells ∧ q.cons.length ≤ 4096) && inB 0 99 q.values && gOk q.neighbors) = true) := by
    go_light
    show _ = true
    grind
  go_loopw [3] (fun i wr => ∃ k : Nat, k ≤ q.cons.length ∧ i = .int .i64 k ∧ Hid ((q.cons.take k).all (fineB q.cells q.symbols) = true) ∧ Ext (w.alloc (probO q p)) wr) (fun i _ => q.cons.length - (intOf i).toNat)
  case atStart => exact ⟨0, Nat.zero_le _, rfl, rfl, Ext.rfl' _⟩
  case round =>
    obtain ⟨k, hk, rfl, hno, hx⟩ := hrel
    obtain ⟨f0, f1, f2, f3, f4⟩ := probBox hx rfl
    by_cases hlt : k < q.cons.length
    · go_wp2_with fail
      obtain ⟨ad, B, b, C, cc, hpc, hlt0, hB, hC, hok, h0, h1, h2, h3, h4, h5, h6, h7, h8⟩ := (h.cons.to (x0.tr hx)).consLoad k hlt
      obtain ⟨pa, pac, pb, pbc, pc, pcc⟩ := p
      dsimp only at hpc
      subst hpc
      have F : ∀ W, Ext wr W → ProbBox W w.heap.size q ⟨pa, pac, pb, pbc, some ad, pcc⟩ ∧ ConsAt W (ad.add (k * 9)) q.cons[k] B b C cc := fun W hW => ⟨probBox (hx.tr hW) rfl, ConsAt.keep hW (by rw [block_of_add]; exact hlt0) ⟨h0, h1, h2, h3, h4, h5, h6, h7, h8⟩⟩
      have HF := hid F; clear F
      clear h0 h1 h2 h3 h4 h5 h6 h7 h8 f0 f1 f2 f3 f4
      have hok' := hid hok; clear hok
      have hbd : 1 ≤ q.cells ∧ q.cells ≤ 256 ∧ 1 ≤ q.symbols ∧ q.symbols ≤ 16 := by
        have := hb.out; simp only [Bool.and_eq_true, decide_eq_true_eq] at this; omega
      have hbd' := hid hbd; clear hbd
      refine wp_region_sf (fun | 9 => some (SF.val (.bool (fineB q.cells q.symbols q.cons[k]))) | _ => none) (by kernel_rfl) (by kernel_rfl) ?_
      repeat (first | (refine wpE_skipK rfl (fun K hK => ?_); go_simp; apply hK; clear hK K) | (refine wpE_detK rfl rfl (fun K hK => ?_); apply Exists.intro; apply And.intro; (focus (rintro W ⟨hx, -⟩; obtain ⟨⟨f0, f1, f2, f3, f4⟩, h0, h1, h2, h3, h4, h5, h6, h7, h8⟩ := HF.out W hx; go_simp; all_goals rfl)); go_simp; apply hK; clear hK K))
      refine wpE_newK _ rfl rfl ?_ ?_
      · rintro W ⟨hW, -⟩
        go_simp
        exact ⟨Ext.rfl' _, (fine19_ok W q.cons[k] B b C cc q.cells q.symbols (hB.to hW) (hC.to hW) hok'.out hbd'.out.1 hbd'.out.2.1 hbd'.out.2.2.1 hbd'.out.2.2.2).mono fun e W' ⟨he, hb⟩ => ⟨_, he, hb, rfl⟩⟩
      rintro _ ⟨_, rfl⟩ K hK
      go_simp; apply hK; clear hK K
      repeat (first | (refine wpE_skipK rfl (fun K hK => ?_); go_simp; apply hK; clear hK K) | (refine wpE_detK rfl rfl (fun K hK => ?_); apply Exists.intro; apply And.intro; (focus (rintro W ⟨hx, -⟩; obtain ⟨⟨f0, f1, f2, f3, f4⟩, h0, h1, h2, h3, h4, h5, h6, h7, h8⟩ := HF.out W hx; go_simp; all_goals rfl)); go_simp; apply hK; clear hK K))
      apply wpE_nil
      rintro W ⟨hW, -⟩
      go_wp2_with fail
      · have hz : (!fineB q.cells q.symbols q.cons[k]) = true := by assumption
        go_ret
        refine ⟨ret_int (validE_bad ?_).symm, (x0.tr hx).tr hW⟩
        rw [validB, all_of_at k hlt (by simpa using hz)]
        simp
      · have hz : (!fineB q.cells q.symbols q.cons[k]) = false := by assumption
        go_roundw
        case rel => exact ⟨k + 1, by omega, by go_num, all_on hlt hno (by simpa using hz), hx.tr hW⟩
        case measure => simp [intOf]; omega
    · go_wp2_with fail
      go_ret
      refine ⟨ret_int ?_, x0.tr hx⟩
      have := hb.out
      have h2 := all_end hno hlt
      symm
      unfold validE; rw [if_pos (by rw [validB, h2]; simpa using this)]
end Go.Proofs.YtimkijmjbnmcbaaGreat
namespace Go.Proofs.YtimkijmjbnmcbaaGreat
open Go.RowKit

/-- All symbols of a problem. -/
abbrev fullS (q : Problem) : Int := 2 ^ q.symbols.toNat - 1
/-- The position in which each cell can have each symbol. -/
def startL (q : Problem) : List Int := if validB q then List.replicate q.cells.toNat (fullS q) else []
theorem valid_bd {q : Problem} (h : validB q = true) : 1 ≤ q.cells ∧ q.cells ≤ 256 ∧ 1 ≤ q.symbols ∧ q.symbols ≤ 16 := by
  simp only [validB, Bool.and_eq_true, decide_eq_true_eq] at h; omega
end Go.Proofs.YtimkijmjbnmcbaaGreat
namespace Go.Proofs.YtimkijmjbnmcbaaGreat
open Go.RowKit

/-- All lists' elements are sets of symbols of the problem. -/
def okPos (q : Problem) (pos : List Int) : Bool := decide ((pos.length : Int) = q.cells) && inB 0 (fullS q) pos
def checkB (q : Problem) (pos : List Int) : Bool := validB q && okPos q pos
def checkE (q : Problem) (pos : List Int) : Int := if validB q then (if okPos q pos then 0 else 250) else 191
theorem checkE_invalid {q : Problem} {pos : List Int} (h : validB q = false) : checkE q pos = 191 := by simp [checkE, h]
theorem checkE_bad {q : Problem} {pos : List Int} (h : validB q = true) (h2 : okPos q pos = false) : checkE q pos = 250 := by simp [checkE, h, h2]
theorem checkE_good {q : Problem} {pos : List Int} (h : validB q = true) (h2 : okPos q pos = true) : checkE q pos = 0 := by simp [checkE, h, h2]

theorem fill_step {k n : Nat} (a b : Int) (h : k < n) : (List.replicate k a ++ List.replicate (n - k) b).set k a = List.replicate (k + 1) a ++ List.replicate (n - (k + 1)) b := by
  have e : n - k = (n - (k + 1)) + 1 := by omega
  rw [e, List.set_append_right _ _ (by simp), List.replicate_succ, List.replicate_succ']
  simp
theorem fill_end {k n : Nat} {a : Int} (b : Int) (h : k = n) : List.replicate k a ++ List.replicate (n - k) b = List.replicate n a := by subst h; simp
theorem okPos_bad {q : Problem} {pos : List Int} {k : Nat} (hk : k < pos.length) (h : pos[k] < 0 ∨ 2 ^ q.symbols.toNat ≤ pos[k]) : okPos q pos = false := by
  have : inB 0 (fullS q) pos = false := all_of_at k hk (by simp only [fullS, Bool.and_eq_false_iff, decide_eq_false_iff_not]; omega)
  simp [okPos, this]
theorem okPos_good {q : Problem} {pos : List Int} (h1 : (pos.length : Int) = q.cells) (h2 : inB 0 (fullS q) pos = true) : okPos q pos = true := by simp [okPos, h1, h2]
theorem inB_on {q : Problem} {pos : List Int} {k : Nat} (hk : k < pos.length) (h : inB 0 (fullS q) (pos.take k) = true) (h2 : 0 ≤ pos[k] ∧ pos[k] < 2 ^ q.symbols.toNat) : inB 0 (fullS q) (pos.take (k + 1)) = true :=
  all_on hk h (by simp only [fullS, Bool.and_eq_true, decide_eq_true_eq]; omega)

set_option maxHeartbeats 1000000 in
theorem pCheck_ok (w : World) (q : Problem) (p : PPtr) (A : Option Addr) (c : Nat) (pos : List Int) (h : RProb w q p) (hp : RInts w A pos) :
    Calls Tryz.prog 37 #[probV q p, .slice A pos.length c] w fun e w' => e = .returned (.int .i64 (checkE q pos)) ∧ Ext w w' := by
  have x0 := (Ext.rfl' w).al (probO q p)
  have hpl := hp.len
  cases hv : validB q
  · have he : (validE q != 0) = true := by simp [validE, hv]
    have hr : validE q = checkE q pos := by simp [checkE, validE, hv]
    have Hr := hid hr
    clear hv hr
    go_enter Tryz.func37, Tryz.ntmps37
    go_wp2_with (go_at_call 72; refine (pvalid_ok _ q p (h.to x0)).mono ?_; rintro e w1 ⟨rfl, hb1⟩; obtain ⟨f0, f1, f2, f3, f4⟩ := probBox hb1 rfl)
    go_ret
    exact ⟨ret_int Hr.out, x0.tr hb1⟩
  · have he : validE q = 0 := by simp [validE, hv]
    have hd := valid_bd hv
    have hpw := pow_bd q.symbols (by omega) (by omega)
    have Hv := hid hv
    clear hv
    by_cases hlen : (pos.length : Int) = q.cells
    · have hl : ((pos.length : Int) != q.cells) = false := by simpa using hlen
      have Hlen := hid hlen; clear hlen
      go_enter Tryz.func37, Tryz.ntmps37
      go_wp2_with (go_at_call 72; refine (pvalid_ok _ q p (h.to x0)).mono ?_; rintro e w1 ⟨rfl, hb1⟩; obtain ⟨f0, f1, f2, f3, f4⟩ := probBox hb1 rfl)
      go_loop [7, 20] (fun _ i => ∃ k : Nat, k ≤ pos.length ∧ i = .int .i64 k ∧ Hid (inB 0 (fullS q) (pos.take k) = true)) (fun _ i => pos.length - (intOf i).toNat)
      case atStart => exact ⟨0, Nat.zero_le _, rfl, rfl⟩
      case round =>
        obtain ⟨k, hk, rfl, hno⟩ := hrel
        by_cases hlt : k < pos.length
        · obtain ⟨ad, rfl, _, hc, _⟩ := (hp.to (x0.tr hb1)).at_ k hlt
          go_wp2_with fail
          all_goals first
            | (go_ret
               exact ⟨ret_int (checkE_bad Hv.out (okPos_bad hlt (by omega))).symm, x0.tr hb1⟩)
            | (go_round
               case rel => exact ⟨k + 1, by omega, by go_num, inB_on hlt hno (by omega)⟩
               case measure => simp [intOf]; omega)
        · go_wp2_with fail
          go_ret
          exact ⟨ret_int (checkE_good Hv.out (okPos_good Hlen.out (all_end hno hlt))).symm, x0.tr hb1⟩
    · have hl : ((pos.length : Int) != q.cells) = true := by simpa using hlen
      go_enter Tryz.func37, Tryz.ntmps37
      go_wp2_with (go_at_call 72; refine (pvalid_ok _ q p (h.to x0)).mono ?_; rintro e w1 ⟨rfl, hb1⟩; obtain ⟨f0, f1, f2, f3, f4⟩ := probBox hb1 rfl)
      go_ret
      exact ⟨ret_int (checkE_bad Hv.out (by simp [okPos, hlen])).symm, x0.tr hb1⟩
end Go.Proofs.YtimkijmjbnmcbaaGreat
namespace Go.Proofs.YtimkijmjbnmcbaaGreat
open Go.RowKit

theorem Ext.drw {a b : World} {n : Nat} (h : b = a.drewN n) : Ext a b := by subst h; exact (Ext.rfl' _).drN _

set_option maxHeartbeats 1000000 in
theorem rCheck_ok (w : World) (q : Problem) (p : PPtr) (A : Option Addr) (c : Nat) (pos : List Int) (h : RProb w q p) (hp : RInts w A pos) :
    Calls Tryz.prog 6 #[probV q p, .slice A pos.length c] w fun e w' => e = .returned (.int .i64 (checkE q pos)) ∧ Ext w w' := by
  have x0 := (Ext.rfl' w).al (probO q p)
  have hpl := hp.len
  cases hv : validB q
  · have he : (validE q != 0) = true := by simp [validE, hv]
    have hr : validE q = checkE q pos := by simp [checkE, validE, hv]
    have Hr := hid hr
    clear hv hr
    go_enter Tryz.func6, Tryz.ntmps6
    go_wp2_with (go_at_call 20; refine (valid19_ok _ q p (h.to x0)).mono ?_; rintro e w1 ⟨rfl, hb1⟩; obtain ⟨f0, f1, f2, f3, f4⟩ := probBox hb1 rfl)
    go_ret
    exact ⟨ret_int Hr.out, x0.tr hb1⟩
  · have he : validE q = 0 := by simp [validE, hv]
    have hd := valid_bd hv
    have hpw := pow_bd q.symbols (by omega) (by omega)
    have Hv := hid hv
    clear hv
    by_cases hlen : (pos.length : Int) = q.cells
    · have hl : ((pos.length : Int) != q.cells) = false := by simpa using hlen
      have Hlen := hid hlen; clear hlen
      go_enter Tryz.func6, Tryz.ntmps6
      go_wp2_with (go_at_call 20; refine (valid19_ok _ q p (h.to x0)).mono ?_; rintro e w1 ⟨rfl, hb1⟩; obtain ⟨f0, f1, f2, f3, f4⟩ := probBox hb1 rfl)
      clear f0 f1 f2 f3 f4
      go_loopw [6] (fun i wr => ∃ k : Nat, k ≤ pos.length ∧ i = .int .i64 k ∧ Hid (inB 0 (fullS q) (pos.take k) = true) ∧ Ext w1 wr) (fun i _ => pos.length - (intOf i).toNat)
      case atStart => exact ⟨0, Nat.zero_le _, rfl, rfl, Ext.rfl' _⟩
      case round =>
        obtain ⟨k, hk, rfl, hno, hx⟩ := hrel
        by_cases hlt : k < pos.length
        · obtain ⟨ad, rfl, _, hc, _⟩ := (hp.to (x0.tr (hb1.tr hx))).at_ k hlt
          obtain ⟨f0, f1, f2, f3, f4⟩ := probBox (hb1.tr hx) rfl
          by_cases hneg : pos[k] < 0
          · go_wp2_with fail
            go_quiet (fail)
            go_wp2_with fail
            go_ret
            exact ⟨ret_int (checkE_bad Hv.out (okPos_bad hlt (by omega))).symm, (x0.tr (hb1.tr hx)).drN _⟩
          · have hneg' : decide (pos[k] < 0) = false := by simpa using hneg
            have hM : IntKind.i64.wrap (2 ^ q.symbols.toNat) = 2 ^ q.symbols.toNat := IntWalk.i64_in _ ⟨by omega, by omega⟩
            go_wp2_with fail
            go_quiet (fail)
            clear hM
            go_wp2_with fail
            all_goals first
              | (go_ret
                 exact ⟨ret_int (checkE_bad Hv.out (okPos_bad hlt (by omega))).symm, (x0.tr (hb1.tr hx)).drN _⟩)
              | (go_roundw
                 case rel => exact ⟨k + 1, by omega, by go_num, inB_on hlt hno (by omega), hx.drN _⟩
                 case measure => simp [intOf]; omega)
        · go_wp2_with fail
          go_ret
          exact ⟨ret_int (checkE_good Hv.out (okPos_good Hlen.out (all_end hno hlt))).symm, x0.tr (hb1.tr hx)⟩
    · have hl : ((pos.length : Int) != q.cells) = true := by simpa using hlen
      go_enter Tryz.func6, Tryz.ntmps6
      go_wp2_with (go_at_call 20; refine (valid19_ok _ q p (h.to x0)).mono ?_; rintro e w1 ⟨rfl, hb1⟩; obtain ⟨f0, f1, f2, f3, f4⟩ := probBox hb1 rfl)
      go_ret
      exact ⟨ret_int (checkE_bad Hv.out (by simp [okPos, hlen])).symm, x0.tr hb1⟩

/-- The bit of a symbol. -/
def bitI (n : Int) : Int := if 0 ≤ n ∧ n < 16 then 2 ^ n.toNat else 0
/-- A position is dead. -/
def deadB (l : List Int) : Bool := l.any (· == 0)
set_option maxHeartbeats 400000 in
theorem pDead_ok (w : World) (A : Option Addr) (c : Nat) (l : List Int) (h : RInts w A l) :
    Calls Tryz.prog 24 #[.slice A l.length c] w fun e w' => e = .returned (.bool (deadB l)) ∧ w = w' := by
  go_enter Tryz.func24, Tryz.ntmps24
  go_wp2_with (go_at_call 47; refine (dead_ok _ _ _ _ h).mono ?_; rintro e w1 ⟨rfl, rfl⟩)
  go_ret
  exact ⟨rfl, rfl⟩

/-- The dead position in the place of one that is dead. -/
def normL (l : List Int) : List Int := if deadB l then List.replicate l.length 0 else l
theorem normL_len (l : List Int) : (normL l).length = l.length := by unfold normL; split <;> simp
theorem normL_dead {l : List Int} (h : deadB l = true) : normL l = List.replicate l.length 0 := by simp [normL, h]
theorem normL_live {l : List Int} (h : deadB l = false) : normL l = l := by simp [normL, h]

/-- A position permits nothing that another one does not. -/
def withinB (a b : List Int) : Bool := decide (a.length = b.length) && (List.range a.length).all fun k => bits .andNot .i64 (num a k) (num b k) == 0
end Go.Proofs.YtimkijmjbnmcbaaGreat
namespace Go.Proofs.YtimkijmjbnmcbaaGreat
open Go.RowKit

/-- What is returned where the cell's new set is v. -/
def chgE (q : Problem) (pos : List Int) (cell symbol : Int) : Int :=
  if checkB q pos then (if 0 ≤ cell ∧ cell < q.cells ∧ 0 ≤ symbol ∧ symbol < q.symbols then 0 else 1) else checkE q pos
def chgL (q : Problem) (pos : List Int) (cell symbol : Int) (f : Int → Int) : List Int :=
  if checkB q pos && decide (0 ≤ cell ∧ cell < q.cells ∧ 0 ≤ symbol ∧ symbol < q.symbols) then normL (pos.set cell.toNat (f (num pos cell.toNat))) else []
theorem chg_bad {q : Problem} {pos : List Int} (h : checkB q pos = false) (cell symbol : Int) (f : Int → Int) : chgE q pos cell symbol = checkE q pos ∧ chgL q pos cell symbol f = [] := by simp [chgE, chgL, h]
theorem chg_arg {q : Problem} {pos : List Int} (h : checkB q pos = true) {cell symbol : Int} (h2 : ¬ (0 ≤ cell ∧ cell < q.cells ∧ 0 ≤ symbol ∧ symbol < q.symbols)) (f : Int → Int) : chgE q pos cell symbol = 1 ∧ chgL q pos cell symbol f = [] := by
  simp only [chgE, chgL, h, decide_eq_false h2, if_neg h2]; simp
theorem chg_good {q : Problem} {pos : List Int} (h : checkB q pos = true) {cell symbol : Int} (h2 : 0 ≤ cell ∧ cell < q.cells ∧ 0 ≤ symbol ∧ symbol < q.symbols) (f : Int → Int) : chgE q pos cell symbol = 0 ∧ chgL q pos cell symbol f = normL (pos.set cell.toNat (f (num pos cell.toNat))) := by
  simp only [chgE, chgL, h, decide_eq_true h2, if_pos h2]; simp
theorem checkB_bd {q : Problem} {pos : List Int} (h : checkB q pos = true) : 1 ≤ q.cells ∧ q.cells ≤ 256 ∧ 1 ≤ q.symbols ∧ q.symbols ≤ 16 ∧ (pos.length : Int) ≤ q.cells ∧ q.cells ≤ pos.length := by
  simp only [checkB, okPos, Bool.and_eq_true, decide_eq_true_eq] at h
  have := valid_bd h.1
  omega
theorem checkE_ok {q : Problem} {pos : List Int} (h : checkB q pos = true) : checkE q pos = 0 := by
  simp only [checkB, Bool.and_eq_true] at h
  exact checkE_good h.1 h.2
theorem checkE_no {q : Problem} {pos : List Int} (h : checkB q pos = false) : (checkE q pos != 0) = true := by
  simp only [checkB, Bool.and_eq_false_iff] at h
  unfold checkE
  rcases h with h | h
  · simp [h]
  · simp only [h]; split <;> decide

theorem i64_wrap64 (x : Int) : I64 (wrap64 x) := by unfold wrap64; exact ⟨by omega, by omega⟩
/-- Two results: a list of integers and an error. -/
def RetIE (w : World) (l : List Int) (er : Int) (e : Ending) (w' : World) : Prop := ∃ A c, e = .returned (.tuple #[.slice A l.length c, .int .i64 er]) ∧ RInts w' A l ∧ Ext w w'
/-- What a method on sets does. -/
def AskSet (w : World) (k : Nat) (g : Int → Int → Int) (n : Int) : Prop :=
  ∀ W s, Ext w W → Calls Tryz.prog k #[.int .u64 s, .int .i64 n] W fun e W' => e = .returned (.int .u64 (g s n)) ∧ W = W'

/-- Removing a symbol from a set; leaving it alone. -/
def without (n x : Int) : Int := (bv x &&& ~~~ BitVec.twoPow 64 n.toNat).toInt
def only (n x : Int) : Int := (bv x &&& BitVec.twoPow 64 n.toNat).toInt
theorem without_p (n x : Int) : wrap64 (bits .andNot .u64 (IntKind.u64.wrap x) (2 ^ n.toNat)) = without n x := by
  rw [ubits_andNot, wrap64_nat, bv_uwrap, bv_pow]; rfl
theorem only_p (n x : Int) : wrap64 (bits .and .u64 (IntKind.u64.wrap x) (2 ^ n.toNat)) = only n x := by
  rw [ubits_and, wrap64_nat, bv_uwrap, bv_pow]; rfl
theorem without_r (n x : Int) (h : 0 ≤ n ∧ n < 16) : bits .and .i64 x (bits .xor .i64 (-1) (bitI n)) = without n x := by
  rw [bits_and, bits_xor, bv_toInt, bitI, if_pos h, bv_pow]
  have : bv (-1) = BitVec.allOnes 64 := by decide
  rw [this, BitVec.allOnes_xor]; rfl
theorem only_r (n x : Int) (h : 0 ≤ n ∧ n < 16) : bits .and .i64 x (bitI n) = only n x := by
  rw [bits_and, bitI, if_pos h, bv_pow]; rfl
theorem chgL_congr {q : Problem} {pos : List Int} {cell symbol : Int} {f g : Int → Int} (h : 0 ≤ symbol → symbol < 16 → ∀ x, f x = g x) : chgL q pos cell symbol f = chgL q pos cell symbol g := by
  unfold chgL
  by_cases hc : (checkB q pos && decide (0 ≤ cell ∧ cell < q.cells ∧ 0 ≤ symbol ∧ symbol < q.symbols)) = true
  · rw [if_pos hc, if_pos hc]
    rw [Bool.and_eq_true, decide_eq_true_eq] at hc
    have := checkB_bd hc.1
    rw [h (by omega) (by omega)]
  · rw [if_neg hc, if_neg hc]
theorem RetIE.as {w : World} {l l' : List Int} {er : Int} {e : Ending} {w' : World} (h : RetIE w l er e w') (hl : l = l') : RetIE w l' er e w' := hl ▸ h

end Go.Proofs.YtimkijmjbnmcbaaGreat
namespace Go.Proofs.YtimkijmjbnmcbaaGreat
open Go.RowKit

/-- What two positions have in common. -/
def meetTo (a b : List Int) (k : Nat) : List Int := (List.range k).map fun i => bits .and .i64 (num a i) (num b i)
theorem meetTo_succ (a b : List Int) (k : Nat) : meetTo a b (k + 1) = meetTo a b k ++ [bits .and .i64 (num a k) (num b k)] := by simp [meetTo, List.range_succ]
def meetL (a b : List Int) : List Int := if a.length = b.length then normL (meetTo a b a.length) else []
def meetE (a b : List Int) : Int := if a.length = b.length then 0 else 250

/-- A finished grid agrees with a position. -/
def agreeB (pos grid : List Int) : Bool := decide (pos.length = grid.length) && (List.range grid.length).all fun k => decide (0 ≤ num grid k ∧ num grid k ≤ 15) && hasS (num pos k) (num grid k).toNat
def SomeBool (w : World) (e : Ending) (w' : World) : Prop := ∃ b, e = .returned (.bool b) ∧ Ext w w'
end Go.Proofs.YtimkijmjbnmcbaaGreat
namespace Go.Proofs.YtimkijmjbnmcbaaGreat
open Go.RowKit

theorem ext_num {l m : List Int} (hl : l.length = m.length) (h : ∀ k, k < l.length → num l k = num m k) : l = m := by
  apply List.ext_getElem hl
  intro i h1 h2
  have := h i h1
  rwa [num_eq h1, num_eq h2] at this
theorem meetTo_len (a b : List Int) (k : Nat) : (meetTo a b k).length = k := by simp [meetTo]
theorem num_meetTo (a b : List Int) (n k : Nat) (h : k < n) : num (meetTo a b n) k = bits .and .i64 (num a k) (num b k) := by
  rw [num_eq (by rw [meetTo_len]; exact h)]; simp [meetTo]
theorem num_zeros (n k : Nat) : num (List.replicate n 0) k = 0 := by
  unfold num
  by_cases h : k < n
  · rw [getD_at _ _ _ (by simpa using h)]; simp
  · rw [List.getD_eq_getElem?_getD, List.getElem?_eq_none (by simpa using h)]; rfl
theorem iand_comm (x y : Int) : bits .and .i64 x y = bits .and .i64 y x := by rw [bits_and, bits_and, BitVec.and_comm]
theorem iand_zero (y : Int) : bits .and .i64 0 y = 0 := by rw [bits_and, bv_zero]; simp
theorem iand_again (x y : Int) : bits .and .i64 (bits .and .i64 x y) x = bits .and .i64 x y := by
  rw [bits_and, bits_and, bv_toInt, BitVec.and_assoc, BitVec.and_comm (bv y), ← BitVec.and_assoc, BitVec.and_self]
theorem inot_left (x y : Int) : bits .andNot .i64 (bits .and .i64 x y) x = 0 := by
  rw [bits_andNot, bits_and, bv_toInt, BitVec.and_comm (bv x), BitVec.and_assoc, BitVec.and_not_self]; simp
theorem inot_zero (y : Int) : bits .andNot .i64 0 y = 0 := by rw [bits_andNot, bv_zero]; simp
theorem hasS_and (x y : Int) (k : Nat) : hasS (bits .and .i64 x y) k = (hasS x k && hasS y k) := by rw [bits_and, hasS_toInt, BitVec.getLsbD_and]; rfl
theorem hasS_zero (k : Nat) : hasS 0 k = false := by unfold hasS; rw [bv_zero]; simp
theorem iand_within {x y : Int} (hx : I64 x) (h : bits .andNot .i64 x y = 0) : bits .and .i64 x y = x := by
  rw [bits_andNot] at h
  have h0 : bv x &&& ~~~ bv y = 0#64 := toInt_inj (by rw [h]; rfl)
  have h1 : bv x &&& bv y = bv x := by
    have e : bv x = (bv x &&& bv y) ||| (bv x &&& ~~~ bv y) := by
      apply BitVec.eq_of_getLsbD_eq
      intro i hi
      simp only [BitVec.getLsbD_or, BitVec.getLsbD_and, BitVec.getLsbD_not, hi]
      cases (bv x).getLsbD i <;> cases (bv y).getLsbD i <;> rfl
    rw [h0, BitVec.or_zero] at e
    exact e.symm
  rw [bits_and, h1, toInt_bv hx]

theorem deadB_iff (l : List Int) : deadB l = true ↔ ∃ k, k < l.length ∧ num l k = 0 := by
  unfold deadB
  rw [List.any_eq_true]
  constructor
  · rintro ⟨x, hx, h⟩
    obtain ⟨k, hk, rfl⟩ := List.getElem_of_mem hx
    exact ⟨k, hk, by rw [num_eq hk]; simpa using h⟩
  · rintro ⟨k, hk, h⟩
    rw [num_eq hk] at h
    exact ⟨_, List.getElem_mem hk, by simp [h]⟩
theorem deadB_no (l : List Int) : deadB l = false ↔ ∀ k, k < l.length → num l k ≠ 0 := by
  constructor
  · intro h k hk h0
    have := (deadB_iff l).2 ⟨k, hk, h0⟩
    rw [h] at this; cases this
  · intro h
    cases hd : deadB l
    · rfl
    · obtain ⟨k, hk, h0⟩ := (deadB_iff l).1 hd
      exact absurd h0 (h k hk)
theorem normL_zeros (n : Nat) : normL (List.replicate n 0) = List.replicate n 0 := by unfold normL; split <;> simp
theorem normL_normL (l : List Int) : normL (normL l) = normL l := by
  cases h : deadB l
  · rw [normL_live h, normL_live h]
  · rw [normL_dead h, normL_zeros]
theorem meetL_comm (a b : List Int) (h : a.length = b.length) : meetL b a = meetL a b := by
  unfold meetL
  rw [if_pos h, if_pos h.symm, h]
  congr 1
  unfold meetTo
  congr 1
  funext i
  exact iand_comm _ _
theorem meetL_len {a b : List Int} (h : a.length = b.length) : (meetL a b).length = a.length := by
  unfold meetL; rw [if_pos h, normL_len, meetTo_len]
theorem meetTo_zeros (a : List Int) (n : Nat) : meetTo (List.replicate n 0) a n = List.replicate n 0 := by
  apply ext_num
  · rw [meetTo_len]; simp
  · intro k hk
    rw [meetTo_len] at hk
    rw [num_meetTo _ _ _ _ hk, num_zeros, iand_zero]
theorem meetL_again {a b : List Int} (h : a.length = b.length) : meetL (meetL a b) a = meetL a b := by
  have hl := meetL_len h
  rw [meetL, if_pos hl, hl]
  unfold meetL
  rw [if_pos h]
  cases hd : deadB (meetTo a b a.length)
  · rw [normL_live hd]
    have : meetTo (meetTo a b a.length) a a.length = meetTo a b a.length := by
      apply ext_num
      · rw [meetTo_len, meetTo_len]
      · intro k hk
        rw [meetTo_len] at hk
        rw [num_meetTo _ _ _ _ hk, num_meetTo _ _ _ _ hk, iand_again]
    rw [this, normL_live hd]
  · rw [normL_dead hd, meetTo_len, meetTo_zeros, normL_zeros]
theorem withinB_iff (a b : List Int) : withinB a b = true ↔ a.length = b.length ∧ ∀ k, k < a.length → bits .andNot .i64 (num a k) (num b k) = 0 := by
  unfold withinB
  simp only [Bool.and_eq_true, decide_eq_true_eq, List.all_eq_true, List.mem_range, beq_iff_eq]
theorem within_norm {a b : List Int} (h : withinB a b = true) : withinB (normL a) b = true := by
  cases hd : deadB a
  · rw [normL_live hd]; exact h
  · rw [normL_dead hd]
    obtain ⟨h1, -⟩ := (withinB_iff a b).1 h
    exact (withinB_iff _ _).2 ⟨by simpa using h1, fun k _ => by rw [num_zeros, inot_zero]⟩
theorem meet_within {a b : List Int} (h : a.length = b.length) : withinB (meetL a b) a = true := by
  unfold meetL
  rw [if_pos h]
  refine within_norm ((withinB_iff _ _).2 ⟨meetTo_len _ _ _, fun k hk => ?_⟩)
  rw [meetTo_len] at hk
  rw [num_meetTo _ _ _ _ hk, inot_left]
theorem meet_within2 {a b : List Int} (h : a.length = b.length) : withinB (meetL a b) b = true := by
  rw [← meetL_comm a b h]; exact meet_within h.symm
theorem meet_self {a b : List Int} (hi : ∀ x ∈ a, I64 x) (h : withinB a b = true) (hd : deadB a = false) : meetL a b = a := by
  obtain ⟨h1, h2⟩ := (withinB_iff a b).1 h
  have : meetTo a b a.length = a := by
    apply ext_num
    · rw [meetTo_len]
    · intro k hk
      rw [meetTo_len] at hk
      rw [num_meetTo _ _ _ _ hk]
      exact iand_within (by rw [num_eq hk]; exact hi _ (List.getElem_mem hk)) (h2 k hk)
  unfold meetL
  rw [if_pos h1, this, normL_live hd]
theorem agreeB_iff (p g : List Int) : agreeB p g = true ↔ p.length = g.length ∧ ∀ k, k < g.length → (0 ≤ num g k ∧ num g k ≤ 15) ∧ hasS (num p k) (num g k).toNat = true := by
  unfold agreeB
  simp only [Bool.and_eq_true, decide_eq_true_eq, List.all_eq_true, List.mem_range]
theorem agree_norm (p g : List Int) : agreeB (normL p) g = agreeB p g := by
  cases hd : deadB p
  · rw [normL_live hd]
  · rw [normL_dead hd]
    obtain ⟨k, hk, h0⟩ := (deadB_iff p).1 hd
    rw [Bool.eq_iff_iff, agreeB_iff, agreeB_iff]
    constructor
    · rintro ⟨h1, h2⟩
      rw [List.length_replicate] at h1
      have := (h2 k (by omega)).2
      rw [num_zeros, hasS_zero] at this; cases this
    · rintro ⟨h1, h2⟩
      have := (h2 k (by omega)).2
      rw [h0, hasS_zero] at this; cases this
theorem meet_agree {a b g : List Int} (h : a.length = b.length) (hg : g.length = a.length) : agreeB (meetL a b) g = (agreeB a g && agreeB b g) := by
  unfold meetL
  rw [if_pos h, agree_norm, Bool.eq_iff_iff, Bool.and_eq_true, agreeB_iff, agreeB_iff, agreeB_iff, meetTo_len]
  constructor
  · rintro ⟨h1, h2⟩
    refine ⟨⟨h1, fun k hk => ?_⟩, ⟨by omega, fun k hk => ?_⟩⟩
    all_goals
      have := h2 k hk
      rw [num_meetTo _ _ _ _ (by omega), hasS_and, Bool.and_eq_true] at this
      exact ⟨this.1, by first | exact this.2.1 | exact this.2.2⟩
  · rintro ⟨⟨h1, h2⟩, -, h3⟩
    refine ⟨h1, fun k hk => ?_⟩
    rw [num_meetTo _ _ _ _ (by omega), hasS_and, (h2 k hk).2, (h3 k hk).2]
    exact ⟨(h2 k hk).1, rfl⟩
end Go.Proofs.YtimkijmjbnmcbaaGreat
