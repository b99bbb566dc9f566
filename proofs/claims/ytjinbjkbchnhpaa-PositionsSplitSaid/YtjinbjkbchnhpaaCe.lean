/- Contract: constraints of problems are checked (the program's text). -/
import Derived.Test.YtjinbjkbchnhpaaDef
import Derived.Deep.DeepCutAuto
import Derived.Deep.CutBlock
import Derived.Test.YtjinbjkbchnhpaaReg
import Derived.Deep.Light
namespace Go.Proofs.Ytjinbjkbchnhpaa
open Go.RowKit

set_option maxRecDepth 100000 in
set_option maxHeartbeats 2000000 in
theorem pfine_ok (w : World) (q : Problem) (p : PPtr) (c : Cons) (A : Option Addr) (a : Nat) (B : Option Addr) (b : Nat) (hA : RInts w A c.cells) (hB : RInts w B c.runs) (hok : c.ok) (h1 : 1 ≤ q.cells) (h2 : q.cells ≤ 256) (h3 : 1 ≤ q.symbols) (h4 : q.symbols ≤ 16) :
    Calls Try.prog 39 #[probV q p, .agg (consCells c A a B b).toArray] w fun e w' => e = .returned (.bool (fineB q.cells q.symbols c)) ∧ Ext w w' := by
  have hl := hA.len
  have hz := zero256
  go_enter Try.func39, Try.ntmps39
  go_wp2_with fail
  go_loopw [11] (fun i wr => ∃ (k : Nat) (Z : Array Value), k ≤ c.cells.length ∧ i = .int .i64 k ∧ Hid ((List.range k).all (cellOk q.cells c) = true) ∧ SeenTab Z c.cells k ∧ Blk wr (w.heap.size + 1 + 1) 70 Z ∧ 
    Ext ((w.alloc (.cells #[.int .i64 q.cells, .int .i64 q.symbols, .slice p.a q.values.length p.ac, .slice p.b q.neighbors.length p.bc, .slice p.c q.cons.length p.cc] 26)).alloc (.cells (consCells c A a B b).toArray 46)) wr) (fun i _ => c.cells.length - (intOf i).toNat)
  case atStart => exact ⟨0, zeros256, Nat.zero_le _, rfl, rfl, seen_zero _, by have := Blk.new ((w.alloc (.cells #[.int .i64 q.cells, .int .i64 q.symbols, .slice p.a q.values.length p.ac, .slice p.b q.neighbors.length p.bc, .slice p.c q.cons.length p.cc] 26)).alloc (.cells (consCells c A a B b).toArray 46)) 70 zeros256; rw [World.size_alloc, World.size_alloc] at this; exact this, (Ext.rfl' _).al _⟩
  case round =>
    obtain ⟨k, Z, hk, rfl, hno, hsee, hblk, hext⟩ := hrel
    have hx1 := ((Ext.rfl' _).al _).tr hext
    have hx0 := ((Ext.rfl' w).al _).tr hx1
    have f0 := boxE hx1 rfl 0 (.int .i64 q.cells) rfl
    have f1 := boxE hx1 rfl 1 (.int .i64 q.symbols) rfl
    have e1 := World.size_alloc w (.cells #[.int .i64 q.cells, .int .i64 q.symbols, .slice p.a q.values.length p.ac, .slice p.b q.neighbors.length p.bc, .slice p.c q.cons.length p.cc] 26)
    have g0 := boxE hext e1 0 (.int .i64 c.kind) rfl
    have g1 := boxE hext e1 1 (.slice A c.cells.length a) rfl
    have g2 := boxE hext e1 2 (.int .i64 c.set) rfl
    have g3 := boxE hext e1 3 (.int .i64 c.other) rfl
    have g4 := boxE hext e1 4 (.int .i64 c.lo) rfl
    have g5 := boxE hext e1 5 (.int .i64 c.hi) rfl
    have g6 := boxE hext e1 6 (.slice B c.runs.length b) rfl
    clear e1
    by_cases hlt : k < c.cells.length
    · obtain ⟨ad, rfl, _, hc, _⟩ := (hA.to hx0).num (by omega)
      have hn : 0 ≤ num c.cells k → num c.cells k < q.cells → wr.cell? ⟨w.heap.size + 1 + 1, (num c.cells k).toNat, none⟩ = some (.bool (met c.cells k)) := by
        intro ha hb
        rw [hblk.cell, hsee _ (by omega)]
        congr 2
        unfold met
        congr 1
        funext i
        congr 1
        omega
      have hf : wr.frozen? ⟨w.heap.size + 1 + 1, (num c.cells k).toNat, none⟩ = false := hblk.frozen _
      go_wp2_with fail
      all_goals first
        | (go_ret; exact ⟨ret_bool (by have h : (List.range c.cells.length).all (cellOk q.cells c) = false := rall_bad hlt (by go_light; grind [cellOk]); simp [fineB, h]), hx0⟩)
        | exact ⟨⟨k + 1, _, by omega, by go_num, rall_on hno (by go_light; grind [cellOk]), seen_set hsee (by omega) (by omega), hblk.set _ _, hext.set (by simp) _⟩, by simp [intOf]; omega⟩
    · have hall := hid (rall_end hno hk hlt)
      clear hno hsee hblk hl
      go_upto_block 2 with fail
      go_cut [44] (fun _ wx => wx = wr ∧ Hid (kindOk q.cells c = true))
      case first =>
        go_wp2_with fail
        all_goals first
          | (go_ret; exact ⟨ret_bool (by have h : kindOk q.cells c = false := by go_light; grind [kindOk]
                                         simp [fineB, h]), hx0⟩)
          | (go_meet; exact ⟨rfl, by have h : kindOk q.cells c = true := by go_light; grind [kindOk]
                                     exact h⟩)
      case rest =>
        obtain ⟨rfl, hkind⟩ := hcut
        clear f0 f1 g0 g1 g2 g3 g4 g5 g6 hx1 hk hlt
        go_wp2_with fail
        have hM : IntKind.i64.wrap (IntKind.i64.wrap (2 ^ q.symbols.toNat) - 1) = 2 ^ q.symbols.toNat - 1 := mask_eq q.symbols h3 h4
        have HM := hid hM; clear hM
        refine wp_region_ext Ext (fun W => Ext wc W ∧ FineHeld w q c B b W) (fun
          | 4 => some fun W v => ∃ A, v = .slice A 2 2 ∧ RInts W A [c.set, c.other]
          | 9 => some fun _ v => v = .bool (inB 0 (2 ^ q.symbols.toNat - 1) [c.set, c.other])
          | 15 => some fun W v => ∃ A, v = .slice A 2 2 ∧ RInts W A [c.lo, c.hi]
          | 16 => some fun _ v => v = .bool (inB 0 65536 [c.lo, c.hi])
          | 27 => some fun _ v => v = .bool (inB 1 256 c.runs)
          | _ => none) (by kernel_rfl) (by kernel_rfl) ?_ ?_ ?_
        · refine ⟨Ext.rfl', fun _ _ _ h k => h.tr k, fun W W' h hh => ⟨hh.1.tr h, fineHeld (hext.tr (hh.1.tr h))⟩, ?_⟩
          intro i F hF W W' v hl hv
          match i, hF with
          | 4, hF => cases hF; obtain ⟨A, e, h⟩ := hv; exact ⟨A, e, h.to hl⟩
          | 9, hF => cases hF; exact hv
          | 15, hF => cases hF; obtain ⟨A, e, h⟩ := hv; exact ⟨A, e, h.to hl⟩
          | 16, hF => cases hF; exact hv
          | 27, hF => cases hF; exact hv
        · exact ⟨Ext.dr (Ext.rfl' _), fineHeld (hext.tr (Ext.dr (Ext.rfl' _)))⟩
        repeat (first | (refine wpE_skipK rfl (fun K hK => ?_); go_simp; apply hK; clear hK K) | (refine wpE_detK rfl rfl (fun K hK => ?_); apply Exists.intro; apply And.intro; (focus (rintro W ⟨⟨hx, h1, h2, h3, h4, h5, h6⟩, -⟩; go_simp; all_goals rfl)); go_simp; apply hK; clear hK K))
        refine wpE_newK _ rfl rfl ?_ ?_
        · rintro W ⟨⟨hx, h1, h2, h3, h4, h5, h6⟩, -⟩
          go_simp
          exact ⟨(Ext.rfl' _).al _, _, rfl, RInts.two hok.2.1 hok.2.2.1⟩
        rintro v4 - K hK
        go_simp; apply hK; clear hK K
        repeat (first | (refine wpE_skipK rfl (fun K hK => ?_); go_simp; apply hK; clear hK K) | (refine wpE_detK rfl rfl (fun K hK => ?_); apply Exists.intro; apply And.intro; (focus (rintro W ⟨⟨hx, h1, h2, h3, h4, h5, h6⟩, -⟩; go_simp; all_goals rfl)); go_simp; apply hK; clear hK K))
        refine wpE_newK _ rfl rfl ?_ ?_
        · rintro W ⟨⟨hx, h1, h2, h3, h4, h5, h6⟩, hG⟩
          obtain ⟨A4, rfl, hr4⟩ : ∃ A, v4 = .slice A 2 2 ∧ RInts W A [c.set, c.other] := (hG ⟨4, .data⟩ (by simp) rfl).2 rfl
          go_simp
          rw [HM.out]
          exact ⟨Ext.rfl' _, (within_ok _ _ _ [c.set, c.other] hr4 _ _).mono fun e W' ⟨he, hb⟩ => ⟨_, he, hb, rfl⟩⟩
        rintro _ ⟨_, rfl⟩ K hK
        go_simp; apply hK; clear hK K
        cases hb1 : inB 0 (2 ^ q.symbols.toNat - 1) [c.set, c.other]
        · repeat (first | (refine wpE_skipK rfl (fun K hK => ?_); go_simp; apply hK; clear hK K) | (refine wpE_detK rfl rfl (fun K hK => ?_); apply Exists.intro; apply And.intro; (focus (rintro W ⟨⟨hx, h1, h2, h3, h4, h5, h6⟩, -⟩; go_simp; all_goals rfl)); go_simp; apply hK; clear hK K))
          apply wpE_nil
          rintro W ⟨⟨hx, -⟩, -⟩
          go_wp2_with fail
          go_ret
          exact ⟨ret_bool (by simp [fineB, numsOk, hb1]), hx0.tr hx⟩
        repeat (first | (refine wpE_skipK rfl (fun K hK => ?_); go_simp; apply hK; clear hK K) | (refine wpE_detK rfl rfl (fun K hK => ?_); apply Exists.intro; apply And.intro; (focus (rintro W ⟨⟨hx, h1, h2, h3, h4, h5, h6⟩, -⟩; go_simp; all_goals rfl)); go_simp; apply hK; clear hK K))
        refine wpE_newK _ rfl rfl ?_ ?_
        · rintro W ⟨⟨hx, h1, h2, h3, h4, h5, h6⟩, -⟩
          go_simp
          exact ⟨(Ext.rfl' _).al _, _, rfl, RInts.two hok.2.2.2.1 hok.2.2.2.2.1⟩
        rintro v15 - K hK
        go_simp; apply hK; clear hK K
        repeat (first | (refine wpE_skipK rfl (fun K hK => ?_); go_simp; apply hK; clear hK K) | (refine wpE_detK rfl rfl (fun K hK => ?_); apply Exists.intro; apply And.intro; (focus (rintro W ⟨⟨hx, h1, h2, h3, h4, h5, h6⟩, -⟩; go_simp; all_goals rfl)); go_simp; apply hK; clear hK K))
        refine wpE_newK _ rfl rfl ?_ ?_
        · rintro W ⟨⟨hx, h1, h2, h3, h4, h5, h6⟩, hG⟩
          obtain ⟨A4, rfl, hr4⟩ : ∃ A, v15 = .slice A 2 2 ∧ RInts W A [c.lo, c.hi] := (hG ⟨15, .data⟩ (by simp) rfl).2 rfl
          go_simp
          exact ⟨Ext.rfl' _, (within_ok _ _ _ [c.lo, c.hi] hr4 _ _).mono fun e W' ⟨he, hb⟩ => ⟨_, he, hb, rfl⟩⟩
        rintro _ ⟨_, rfl⟩ K hK
        go_simp; apply hK; clear hK K
        cases hb2 : inB 0 65536 [c.lo, c.hi]
        · repeat (first | (refine wpE_skipK rfl (fun K hK => ?_); go_simp; apply hK; clear hK K) | (refine wpE_detK rfl rfl (fun K hK => ?_); apply Exists.intro; apply And.intro; (focus (rintro W ⟨⟨hx, h1, h2, h3, h4, h5, h6⟩, -⟩; go_simp; all_goals rfl)); go_simp; apply hK; clear hK K))
          apply wpE_nil
          rintro W ⟨⟨hx, -⟩, -⟩
          go_wp2_with fail
          go_ret
          exact ⟨ret_bool (by simp [fineB, numsOk, hb2]), hx0.tr hx⟩
        by_cases hb3 : c.runs.length ≤ 8
        · have hd3 : decide ((c.runs.length : Int) ≤ 8) = true := by simp; omega
          repeat (first | (refine wpE_skipK rfl (fun K hK => ?_); go_simp; apply hK; clear hK K) | (refine wpE_detK rfl rfl (fun K hK => ?_); apply Exists.intro; apply And.intro; (focus (rintro W ⟨⟨hx, h1, h2, h3, h4, h5, h6⟩, -⟩; go_simp; all_goals rfl)); go_simp; apply hK; clear hK K))
          refine wpE_newK _ rfl rfl ?_ ?_
          · rintro W ⟨⟨hx, h1, h2, h3, h4, h5, h6⟩, -⟩
            go_simp
            exact ⟨Ext.rfl' _, (within_ok _ _ _ c.runs (hB.to (hx0.tr hx)) _ _).mono fun e W' ⟨he, hb⟩ => ⟨_, he, hb, rfl⟩⟩
          rintro _ ⟨_, rfl⟩ K hK
          go_simp; apply hK; clear hK K
          repeat (first | (refine wpE_skipK rfl (fun K hK => ?_); go_simp; apply hK; clear hK K) | (refine wpE_detK rfl rfl (fun K hK => ?_); apply Exists.intro; apply And.intro; (focus (rintro W ⟨⟨hx, h1, h2, h3, h4, h5, h6⟩, -⟩; go_simp; all_goals rfl)); go_simp; apply hK; clear hK K))
          apply wpE_nil
          rintro W ⟨⟨hx, -⟩, -⟩
          go_wp2_with fail
          go_ret
          exact ⟨ret_bool (by have := hall.out; have := hkind.out; simp [fineB, numsOk, *]), hx0.tr hx⟩
        · have hd3 : decide ((c.runs.length : Int) ≤ 8) = false := by simp; omega
          repeat (first | (refine wpE_skipK rfl (fun K hK => ?_); go_simp; apply hK; clear hK K) | (refine wpE_detK rfl rfl (fun K hK => ?_); apply Exists.intro; apply And.intro; (focus (rintro W ⟨⟨hx, h1, h2, h3, h4, h5, h6⟩, -⟩; go_simp; all_goals rfl)); go_simp; apply hK; clear hK K))
          apply wpE_nil
          rintro W ⟨⟨hx, -⟩, -⟩
          go_wp2_with fail
          go_ret
          exact ⟨ret_bool (by simp [fineB, numsOk, hb3]), hx0.tr hx⟩
end Go.Proofs.Ytjinbjkbchnhpaa
