/- Contract: the law on what is true in each solution holds. -/
import Derived.Test.YtimkijmjbnmcbaaGreatYmGj
import Derived.Test.YtimkijmjbnmcbaaGreatYm24
import Derived.Test.YtimkijmjbnmcbaaGreatYm19
namespace Go.Proofs.YtimkijmjbnmcbaaGreat
open Go Go.RowKit
def TrueBox (W : World) (g : Nat) (q : Problem) (p : PPtr) (n : Nat) (A : Option Addr) (a : Nat) (B : Option Addr) (bn bc : Nat) (t : Int) (ci si : List Int) (C : Option Addr) (cn : Nat) (D : Option Addr) (dn : Nat) : Prop :=
  ProbBox W g q p ∧ W.cell? ⟨g + 1, 0, none⟩ = some (.slice A n a) ∧ W.cell? ⟨g + 1, 1, none⟩ = some (.slice B bn bc) ∧ W.cell? ⟨g + 1 + 1, 0, none⟩ = some (.int .i64 t) ∧ W.cell? ⟨g + 1 + 1, 1, none⟩ = some (.slice C ci.length cn) ∧ W.cell? ⟨g + 1 + 1, 2, none⟩ = some (.slice D si.length dn)
theorem checkE_nz {q : Problem} {pos : List Int} (h : checkB q pos = false) : (checkE q pos != 0) = true := by have := checkE_no h; simpa using this
theorem diff33_x (w : World) (A : Option Addr) (c : Nat) (l : List Int) (h : RInts w A l) (hcap : l.length ≤ c) (n : Int) (b : Bool) (hb : diffB l n = b) : Calls Tryz.prog 10 #[.slice A l.length c, .int .i64 n] w fun e w' => e = .returned (.bool b) ∧ Ext w w' := by subst hb; exact diff33_ok w A c l h hcap n
/-- What the walk has to know of a finished grid that solves. -/
theorem grid_true {q : Problem} {pos grid : List Int} {x : Rule} {i : Inst} (hck : checkB q pos = true) (hvr : validR x = true) (hin : instB q x i = true) (hf : fitB q pos x i = true) (hg : grid ∈ gridsTo pos pos.length) (hfin : Fin q grid) (hgo : ∀ c ∈ q.cons, GoodC q grid c) :
    (∀ c ∈ x.conds, isB q grid c i.cells i.symbols = true ∧ CondOK q c i.cells i.symbols) ∧ ∀ y ∈ x.premises, cntL grid [num i.cells y.cell.toNat] (chosen i.symbols y.letters) = 1 := by
  unfold instB at hin
  simp only [Bool.and_eq_true, Bool.not_eq_true', bne_eq_false_iff_eq] at hin
  obtain ⟨⟨h1, -⟩, h2, -⟩ := hin
  have hpl : (pos.length : Int) = q.cells := by unfold checkB okPos at hck; simp only [Bool.and_eq_true, decide_eq_true_eq] at hck; exact hck.2.1
  obtain ⟨hl, hm⟩ := gridsTo_mem hg
  have hbd := valid_bd hfin.valid
  have hp : InPos q pos grid := by
    refine ⟨fun z h0 h1 => ?_, fun z h0 h1 => ?_⟩
    · have := gat_sym hfin.sym h0 (by omega); omega
    · exact (hm z.toNat (by omega)).2
  have hc : i.cells.length = x.cells.length := by omega
  have hs : i.symbols.length = x.letters.length := by omega
  obtain ⟨t1, t2⟩ := fit_true hck hvr hc hs hf hgo hp
  refine ⟨fun c hcm => ⟨t1 c hcm, ?_⟩, t2⟩
  unfold fitB at hf
  simp only [Bool.and_eq_true] at hf
  exact condOK_of hf.1.1.1.2 hf.1.1.2 (by rw [hc, hs]; exact valid_cond hvr hcm)
set_option maxRecDepth 100000 in
set_option maxHeartbeats 16000000 in
theorem lTrue_ok (w : World) (q : Problem) (p : PPtr) (l : List Rule) (A : Option Addr) (a : Nat) (B : Option Addr) (bn bc : Nat) (P : Option Addr) (pn : Nat) (pos : List Int) (i : Inst) (z : IPtr) (hq : RProb w q p) (hl : RRules w A l) (hP : RInts w P pos) (hi : RInstP w i z) :
    Calls Tryz.prog 3 #[probV q p, libW l A a B bn bc, .slice P pos.length pn, instW i z] w fun e w' => e = .returned (.bool true) ∧ Ext w w' := by
  obtain ⟨pa, pac, pb, pbc, pc, pcc⟩ := p
  obtain ⟨t, ci, si⟩ := i
  obtain ⟨C, cn, D, dn⟩ := z
  have x0 := (((Ext.rfl' w).al (probO q ⟨pa, pac, pb, pbc, pc, pcc⟩)).al (libO l A a B bn bc)).al (instC t ci si C cn D dn)
  have F : ∀ V, Ext (((w.alloc (probO q ⟨pa, pac, pb, pbc, pc, pcc⟩)).alloc (libO l A a B bn bc)).alloc (instC t ci si C cn D dn)) V → TrueBox V w.heap.size q ⟨pa, pac, pb, pbc, pc, pcc⟩ l.length A a B bn bc t ci si C cn D dn := fun V hV => by
    have h2 := ((Ext.rfl' ((w.alloc (probO q ⟨pa, pac, pb, pbc, pc, pcc⟩)).alloc (libO l A a B bn bc))).al (instC t ci si C cn D dn)).tr hV
    have h1 := ((Ext.rfl' (w.alloc (probO q ⟨pa, pac, pb, pbc, pc, pcc⟩))).al (libO l A a B bn bc)).tr h2
    exact ⟨probBox h1 rfl, boxE h2 (by simp) 0 _ rfl, boxE h2 (by simp) 1 _ rfl, boxE hV (by simp) 0 _ rfl, boxE hV (by simp) 1 _ rfl, boxE hV (by simp) 2 _ rfl⟩
  have HF := hid F; clear F
  have l1 := hi.cells.len
  have l2 := hi.symbols.len
  have hll := hl.len
  have hpl := hP.len
  dsimp only at l1 l2
  obtain ⟨r1, r2, hr⟩ : ∃ a b, fitsR q l pos ⟨t, ci, si⟩ = (a, b) := ⟨_, _, rfl⟩
  have m1 := fun V hV => mFits_ok V q ⟨pa, pac, pb, pbc, pc, pcc⟩ l A a B bn bc P pn pos ⟨t, ci, si⟩ ⟨C, cn, D, dn⟩ (hq.to (x0.tr hV)) (hl.to (x0.tr hV)) (hP.to (x0.tr hV)) (hi.to (x0.tr hV))
  have fw := fun V hV => few33_ok V q ⟨pa, pac, pb, pbc, pc, pcc⟩ l A a B bn bc (hq.to (x0.tr hV)) (hl.to (x0.tr hV))
  have rc := fun V hV => rCheck_ok V q ⟨pa, pac, pb, pbc, pc, pcc⟩ P pn pos (hq.to (x0.tr hV)) (hP.to (x0.tr hV))
  have gr := fun V hV => grids33_ok V P pn pos (hP.to (w' := V) (x0.tr hV))
  unfold RetBE at m1
  rw [hr] at m1
  have M1 := hid m1; have Fw := hid fw; have Rc := hid rc; have Gr := hid gr; clear m1 fw rc gr
  have Hres := hid hr; clear hr
  go_enter Tryz.func3, Tryz.ntmps3
  go_upto_region 3 with (go_at_call 4; refine (sane33_ok _).mono ?_; rintro e w1 ⟨rfl, hb1⟩)
  obtain ⟨⟨f0, f1, f2, f3, f4⟩, f5, f6, f7, f8, f9⟩ := HF.out _ hb1
  dsimp only at f2 f3 f4
  go_wp2_with fail
  refine (Fw.out _ hb1).mono ?_
  rintro e w2 ⟨bf, rfl, -, hb2⟩
  have y2 := hb1.tr hb2
  clear f0 f1 f2 f3 f4 f5 f6 f7 f8 f9 Fw
  obtain ⟨⟨f0, f1, f2, f3, f4⟩, f5, f6, f7, f8, f9⟩ := HF.out _ y2
  dsimp only at f2 f3 f4
  cases bf
  · go_wp2_with fail
    go_ret
    exact ⟨rfl, x0.tr y2⟩
  by_cases hm : (40 : Int) < (ci.length : Int) + si.length
  · go_wp2_with fail
    go_ret
    exact ⟨rfl, x0.tr y2⟩
  go_wp2_with fail
  refine (Rc.out _ y2).mono ?_
  rintro e w3 ⟨rfl, hb3⟩
  have y3 := y2.tr hb3
  clear f0 f1 f2 f3 f4 f5 f6 f7 f8 f9 Rc
  obtain ⟨⟨f0, f1, f2, f3, f4⟩, f5, f6, f7, f8, f9⟩ := HF.out _ y3
  dsimp only at f2 f3 f4
  cases hck : checkB q pos
  · have hne := checkE_nz hck
    clear hck
    go_wp2_with fail
    go_ret
    exact ⟨rfl, x0.tr y3⟩
  have hne := checkE_ok hck
  have Hck := hid hck; clear hck
  by_cases hl16 : (16 : Int) < (l.length : Int)
  · go_wp2_with fail
    go_ret
    exact ⟨rfl, x0.tr y3⟩
  go_wp2_with fail
  clear f0 f1 f2 f3 f4 f5 f6 f7 f8 f9
  go_loopw [10, 55] (fun _ i wr => ∃ k : Nat, k ≤ l.length ∧ i = .int .i64 k ∧ Hid ((l.take k).all validR = true) ∧ Ext w3 wr) (fun _ i _ => l.length - (intOf i).toNat)
  case atStart => exact ⟨0, Nat.zero_le _, rfl, rfl, Ext.rfl' _⟩
  case round =>
    obtain ⟨k, hk, rfl, hno, hx⟩ := hrel
    have y4 := y3.tr hx
    by_cases hlt : k < l.length
    · obtain ⟨ad, p', rfl, hab, hps, g0, g1, g2, g3, g4, g5, g6, g7⟩ := (hl.to (x0.tr y4)).ruleLoad k hlt
      have hck3 := check30_ok (wr.alloc (ruleO l[k] p')) l[k] p' (hps.to ((Ext.rfl' wr).al (ruleO l[k] p')))
      have Hck3 := hid hck3; clear hck3
      cases hv : validR l[k]
      · have hne2 := validRE_ne false hv
        clear hv
        go_wp2_with fail
        refine Hck3.out.mono ?_
        rintro e w5 ⟨rfl, hb5⟩
        go_wp2_with fail
        go_ret
        exact ⟨rfl, x0.tr (y4.tr (((Ext.rfl' wr).al (ruleO l[k] p')).tr hb5))⟩
      · have hne2 := validRE_ne true hv
        have hon := all_on hlt hno.out hv
        have Hon := hid hon; clear hv hon
        go_wp2_with fail
        refine Hck3.out.mono ?_
        rintro e w5 ⟨rfl, hb5⟩
        go_wp2_with fail
        go_roundw
        case rel => exact ⟨k + 1, by omega, by go_num, Hon.out, hx.tr (((Ext.rfl' wr).al (ruleO l[k] p')).tr hb5)⟩
        case measure => simp [intOf]; omega
    · have hall : l.take k = l := List.take_of_length_le (by omega)
      rw [hall] at hno
      have hgr := Gr.out wr y4
      have Hgr := hid hgr; clear hgr Gr
      go_upto_region 12 with (go_at_call 8; refine Hgr.out.mono ?_; rintro e w5 ⟨LA, lc, L, bg, rfl, hg, hb5⟩)
      have y5 := y4.tr hb5
      have Hg := hid hg; clear hg Hgr hx
      cases bg
      · go_wp2_with fail
        go_ret
        exact ⟨rfl, x0.tr y5⟩
      obtain ⟨hLe, hL, hL5⟩ := Hg.out rfl
      have HLe := hid hLe
      clear Hg hLe
      obtain ⟨⟨f0, f1, f2, f3, f4⟩, f5, f6, f7, f8, f9⟩ := HF.out _ y5
      dsimp only at f2 f3 f4
      go_upto_region 15 with (go_at_call 9; refine (M1.out _ y5).mono ?_; rintro e w6 ⟨rfl, hb6⟩)
      have y6 := y5.tr hb6
      clear f0 f1 f2 f3 f4 f5 f6 f7 f8 f9 M1
      cases r1
      · go_wp2_with fail
        go_ret
        exact ⟨rfl, x0.tr y6⟩
      obtain ⟨hlib, ⟨h0, h1⟩, hin, hfit, hz⟩ := fitsR_yes Hres.out rfl
      dsimp only at h0 h1 hin hfit hz
      subst hz
      obtain ⟨k2, rfl⟩ : ∃ k2 : Nat, t = k2 := ⟨t.toNat, by omega⟩
      have hk2 : k2 < l.length := by omega
      have hrn : ruleN l ((k2 : Int).toNat) = l[k2] := by rw [show ((k2 : Int).toNat) = k2 from by omega, ruleN_eq hk2]
      rw [hrn] at hin hfit
      have hvr : validR l[k2] = true := lib_rule hlib hk2
      have hgt := fun grid hg hfin hgo => grid_true Hck.out hvr hin hfit (grid := grid) hg hfin hgo
      have Hgt := hid hgt; clear hgt
      have hv : validB q = true := by have := Hck.out; unfold checkB at this; rw [Bool.and_eq_true] at this; exact this.1
      clear hlib hrn
      have hin2 := hin
      unfold instB at hin2
      simp only [Bool.and_eq_true, Bool.not_eq_true'] at hin2
      obtain ⟨⟨hne5, -⟩, hne6, -⟩ := hin2
      have hfit2 := hfit
      unfold fitB at hfit2
      simp only [Bool.and_eq_true] at hfit2
      have hd1 := hfit2.1.1.1.2
      have hd2 := hfit2.1.1.2
      have hpre : ∀ y ∈ l[k2].premises, (0 ≤ y.cell ∧ y.cell < (ci.length : Int)) ∧ Idx y.letters si.length := fun y hy => by
        have e5 := bne_eq_false_iff_eq.1 hne5
        have e6 := bne_eq_false_iff_eq.1 hne6
        obtain ⟨h8, h9⟩ := valid_prem hvr hy
        exact ⟨⟨h8.1, by omega⟩, fun z hz => by have := h9 z hz; omega⟩
      have Hpre := hid hpre
      have Hrange := hid (diff_iff hd1)
      have hcap1 := hi.capc
      have hcap2 := hi.caps
      dsimp only at hcap1 hcap2
      have hC := hi.cells
      have hD := hi.symbols
      dsimp only at hC hD
      have dd1 := fun V (hV : Ext (((w.alloc (probO q ⟨pa, pac, pb, pbc, pc, pcc⟩)).alloc (libO l A a B bn bc)).alloc (instC k2 ci si C cn D dn)) V) => diff33_x V C cn ci (hC.to (x0.tr hV)) hcap1 q.cells true hd1
      have dd2 := fun V (hV : Ext (((w.alloc (probO q ⟨pa, pac, pb, pbc, pc, pcc⟩)).alloc (libO l A a B bn bc)).alloc (instC k2 ci si C cn D dn)) V) => diff33_x V D dn si (hD.to (x0.tr hV)) hcap2 q.symbols true hd2
      have Dd1 := hid dd1; have Dd2 := hid dd2; clear dd1 dd2 hpre hfit2 hd1 hd2 hfit hin
      obtain ⟨⟨f0, f1, f2, f3, f4⟩, f5, f6, f7, f8, f9⟩ := HF.out _ y6
      dsimp only at f2 f3 f4
      obtain ⟨ad, p', rfl, hab, hps, g0, g1, g2, g3, g4, g5, g6, g7⟩ := (hl.to (x0.tr y6)).ruleLoad k2 hk2
      go_upto_region 20 with fail
      clear f0 f1 f2 f3 f4 f5 f6 f7 f8 f9 g0 g1 g2 g3 g4 g5 g6 g7
      obtain ⟨w7, hw7⟩ : ∃ w7, w6.alloc (ruleO l[k2] p') = w7 := ⟨_, rfl⟩
      have hb7 : Ext w6 w7 := by rw [← hw7]; exact (Ext.rfl' _).al _
      have hrb : ∀ V, Ext w7 V → RuleBox V w6.heap.size l[k2] p' := fun V hV => ruleBox (by rw [hw7]; exact hV) rfl
      have Hrb := hid hrb; clear hrb
      have y7 := y6.tr hb7
      rw [hw7]
      clear hw7
      obtain ⟨g0, g1, g2, g3, g4, g5, g6, g7⟩ := Hrb.out w7 (Ext.rfl' _)
      obtain ⟨⟨f0, f1, f2, f3, f4⟩, f5, f6, f7, f8, f9⟩ := HF.out w7 y7
      dsimp only at f2 f3 f4
      go_upto_region 22 with (first
        | (go_at_call 10; (with_reducible refine (Dd1.out _ y7).mono ?_); rintro e w8 ⟨rfl, hb8⟩; clear f0 f1 f2 f3 f4 f5 f6 f7 f8 f9 g0 g1 g2 g3 g4 g5 g6 g7; obtain ⟨g0, g1, g2, g3, g4, g5, g6, g7⟩ := Hrb.out w8 hb8; obtain ⟨⟨f0, f1, f2, f3, f4⟩, f5, f6, f7, f8, f9⟩ := HF.out w8 (y7.tr hb8); dsimp only at f2 f3 f4)
        | (go_at_call 10; (with_reducible refine (Dd2.out _ (y7.tr hb8)).mono ?_); rintro e w9 ⟨rfl, hb9⟩; clear f0 f1 f2 f3 f4 f5 f6 f7 f8 f9 g0 g1 g2 g3 g4 g5 g6 g7))
      have b79 := hb8.tr hb9
      have y9 := y7.tr b79
      have hps9 := hps.to (hb7.tr b79)
      have hL9 := hL.to (hb6.tr (hb7.tr b79))
      have hcl := hps9.conds.len
      have hplen := hps9.premises.len
      have hLl := hL.len
      clear Dd1 Dd2 hps hL
      go_wp2_with fail
      go_loopw [17, 18, 19, 21, 23, 135] (fun _ _ _ _ _ i wr => ∃ k : Nat, k ≤ L.length ∧ i = .int .i64 k ∧ Ext w9 wr) (fun _ _ _ _ _ i _ => L.length - (intOf i).toNat)
      case atStart => exact ⟨0, Nat.zero_le _, rfl, Ext.rfl' _⟩
      case round =>
        obtain ⟨m, hm, rfl, hx⟩ := hrel
        obtain ⟨wo, rfl⟩ : ∃ wo : World, wo = wr := ⟨_, rfl⟩
        have yo := y9.tr hx
        by_cases hlt2 : m < L.length
        · obtain ⟨ld, G, gc, rfl, hlb, hlc, hG⟩ := (hL9.to hx).rowAt m hlt2
          obtain ⟨grid, hgrid⟩ : ∃ g, row L m = g := ⟨_, rfl⟩
          have hmem : grid ∈ gridsTo pos pos.length := by rw [← HLe.out, ← hgrid, row_eq hlt2]; exact List.getElem_mem _
          rw [hgrid] at hlc hG
          have hso := solves20_ok wo q ⟨pa, pac, pb, pbc, pc, pcc⟩ G gc grid (hq.to (x0.tr yo)) hG hv
          have Hso := hid hso; clear hso hgrid
          obtain ⟨⟨f0, f1, f2, f3, f4⟩, f5, f6, f7, f8, f9⟩ := HF.out wo yo
          dsimp only at f2 f3 f4
          go_upto_region 26 with (go_at_call 11; refine Hso.out.mono ?_; rintro e w10 ⟨bs, er, rfl, hbs, hb10⟩)
          have Hbs := hid hbs; clear hbs Hso f0 f1 f2 f3 f4 f5 f6 f7 f8 f9 hlc
          have y10 := yo.tr hb10
          cases bs
          · go_wp2_with fail
            go_roundw
            case rel => exact ⟨m + 1, by omega, by go_num, hx.tr hb10⟩
            case measure => simp [intOf]; omega
          obtain ⟨hfin, hgo⟩ := Hbs.out rfl
          obtain ⟨t1, t2⟩ := Hgt.out grid hmem hfin hgo
          try dsimp only at t1 t2
          have T1 := hid t1; have T2 := hid t2; have Hfin := hid hfin
          clear t1 t2 hgo hfin Hbs hmem
          obtain ⟨g0, g1, g2, g3, g4, g5, g6, g7⟩ := Hrb.out w10 (b79.tr (hx.tr hb10))
          go_wp2_with fail
          clear g0 g1 g2 g3 g4 g5 g6 g7
          go_loopw [21, 150] (fun _ i wv => ∃ j : Nat, j ≤ l[k2].conds.length ∧ i = .int .i64 j ∧ Ext w10 wv) (fun _ i _ => l[k2].conds.length - (intOf i).toNat)
          case atStart => exact ⟨0, Nat.zero_le _, rfl, Ext.rfl' _⟩
          case round =>
            obtain ⟨j, hj, rfl, hxv⟩ := hrel
            obtain ⟨wv, rfl⟩ : ∃ wv : World, wv = wr := ⟨_, rfl⟩
            have yv := y10.tr hxv
            by_cases hlt4 : j < l[k2].conds.length
            · obtain ⟨bd, A1, a1, B1, b1, hA, hab2, r1, r2, -, -, g0, g1, g2, g3⟩ := ((hps9.conds.to (hx.tr hb10)).to hxv).condAt j hlt4
              rw [hA]
              go_upto_region 30 with fail
              clear g0 g1 g2 g3
              obtain ⟨wi, hwi⟩ : ∃ wi, wv.alloc (condO l[k2].conds[j] A1 a1 B1 b1) = wi := ⟨_, rfl⟩
              have xi : Ext wv wi := by rw [← hwi]; exact (Ext.rfl' _).al _
              have c0 : wi.cell? ⟨wv.heap.size, 0, none⟩ = some (.int .i64 l[k2].conds[j].kind) := boxE (by rw [hwi]; exact Ext.rfl' _) rfl 0 _ rfl
              have c1 : wi.cell? ⟨wv.heap.size, 1, none⟩ = some (.slice A1 l[k2].conds[j].cells.length a1) := boxE (by rw [hwi]; exact Ext.rfl' _) rfl 1 _ rfl
              have c2 : wi.cell? ⟨wv.heap.size, 2, none⟩ = some (.slice B1 l[k2].conds[j].letters.length b1) := boxE (by rw [hwi]; exact Ext.rfl' _) rfl 2 _ rfl
              have c3 : wi.cell? ⟨wv.heap.size, 3, none⟩ = some (.int .i64 l[k2].conds[j].n) := boxE (by rw [hwi]; exact Ext.rfl' _) rfl 3 _ rfl
              rw [hwi]
              clear hwi
              have yi := yv.tr xi
              obtain ⟨⟨f0, f1, f2, f3, f4⟩, f5, f6, f7, f8, f9⟩ := HF.out wi yi
              dsimp only at f2 f3 f4
              obtain ⟨u1, u2⟩ := T1.out _ (List.getElem_mem hlt4)
              have his := is33_ok wi q ⟨pa, pac, pb, pbc, pc, pcc⟩ G gc grid l[k2].conds[j] A1 a1 B1 b1 C cn D dn ci si (hq.to (x0.tr yi)) (hG.to (hb10.tr (hxv.tr xi))) (r1.to xi) (r2.to xi) (hC.to (x0.tr yi)) (hD.to (x0.tr yi)) Hfin.out u2
              rw [u1] at his
              have His := hid his; clear his u1 u2
              go_wp2_with (go_at_call 12; refine His.out.mono ?_; rintro e w11 ⟨rfl, hb11⟩)
              go_roundw
              case rel => exact ⟨j + 1, by omega, by go_num, hxv.tr (xi.tr hb11)⟩
              case measure => simp [intOf]; omega
            · obtain rfl : j = l[k2].conds.length := by omega
              obtain ⟨g0, g1, g2, g3, g4, g5, g6, g7⟩ := Hrb.out wv (b79.tr (hx.tr (hb10.tr hxv)))
              go_wp2_with fail
              clear g0 g1 g2 g3 g4 g5 g6 g7
              go_loopw [23, 167] (fun _ i ww => ∃ j : Nat, j ≤ l[k2].premises.length ∧ i = .int .i64 j ∧ Ext wv ww) (fun _ i _ => l[k2].premises.length - (intOf i).toNat)
              case atStart => exact ⟨0, Nat.zero_le _, rfl, Ext.rfl' _⟩
              case round =>
                obtain ⟨j, hj, rfl, hxw⟩ := hrel
                obtain ⟨ww, rfl⟩ : ∃ ww : World, ww = wr := ⟨_, rfl⟩
                have yw := yv.tr hxw
                by_cases hlt5 : j < l[k2].premises.length
                · obtain ⟨bd, B1, b1, hA, hab2, r1, -, g0, g1⟩ := ((hps9.premises.to (hx.tr hb10)).to (hxv.tr hxw)).premAt j hlt5
                  rw [hA]
                  obtain ⟨⟨q0, q1⟩, q2⟩ := Hpre.out _ (List.getElem_mem hlt5)
                  have t3 := T2.out _ (List.getElem_mem hlt5)
                  obtain ⟨y, hy⟩ : ∃ y, l[k2].premises[j] = y := ⟨_, rfl⟩
                  rw [hy] at r1 g0 g1 q0 q1 q2 t3
                  clear hy
                  go_upto_region 36 with fail
                  clear g0 g1
                  obtain ⟨wi, hwi⟩ : ∃ wi, ww.alloc (.cells #[.int .i64 y.cell, .slice B1 y.letters.length b1] 53) = wi := ⟨_, rfl⟩
                  have xi : Ext ww wi := by rw [← hwi]; exact (Ext.rfl' _).al _
                  have yi := yw.tr xi
                  obtain ⟨cd, e5, hcb, hcc, -⟩ := hC.num (by omega)
                  have hc1 := hcc y.cell.toNat (by omega)
                  have HK : Hid (∀ V, Ext wi V → (V.cell? ⟨ww.heap.size, 0, none⟩ = some (.int .i64 y.cell) ∧ V.cell? ⟨ww.heap.size, 1, none⟩ = some (.slice B1 y.letters.length b1)) ∧ (V.cell? ⟨w.heap.size + 1 + 1, 1, none⟩ = some (.slice C ci.length cn) ∧ V.cell? ⟨w.heap.size + 1 + 1, 2, none⟩ = some (.slice D si.length dn)) ∧ V.cell? (cd.add y.cell.toNat) = some (.int .i64 (num ci y.cell.toNat))) := hid fun V hV => by
                    obtain ⟨-, -, -, -, f8, f9⟩ := HF.out V (yi.tr hV)
                    exact ⟨⟨boxE (by rw [hwi]; exact hV) rfl 0 _ rfl, boxE (by rw [hwi]; exact hV) rfl 1 _ rfl⟩, ⟨f8, f9⟩, cellE (x0.tr (yi.tr hV)) hc1 (by rw [block_of_add]; exact hcb)⟩
                  rw [hwi]
                  clear hwi hcc hc1
                  subst e5
                  obtain ⟨x, hxe⟩ : ∃ x, num ci y.cell.toNat = x := ⟨_, rfl⟩
                  have hxr := Hrange.out x (by rw [← hxe, num_eq (by omega)]; exact List.getElem_mem _)
                  have hxi : Idx [x] grid.length := fun z hz => by
                    rw [List.mem_singleton] at hz; subst hz; have := Hfin.out.len; omega
                  have hx64 : I64 x := by have := valid_bd hv; exact ⟨by omega, by omega⟩
                  rw [hxe] at HK t3
                  clear hxe hxr
                  obtain ⟨ll, hle⟩ : ∃ ll, chosen si y.letters = ll := ⟨_, rfl⟩
                  have hch := fun V (hV : Ext wi V) => chosen33_c V D B1 dn b1 si y.letters (hD.to (x0.tr (yi.tr hV))) (r1.to (xi.tr hV)) q2
                  rw [hle] at hch t3
                  have hct := fun V (hV : Ext wi V) gb X xc (hR : RInts V (some ⟨gb, 0, none⟩) [x]) (hXl : RInts V X ll) => count33_n V G (some ⟨gb, 0, none⟩) X gc 1 xc grid [x] ll 1 ll.length rfl rfl (hG.to (hb10.tr (hxv.tr (hxw.tr (xi.tr hV))))) hR hXl hxi
                  rw [t3] at hct
                  have Hch := hid hch; have Hct := hid hct; have Hx64 := hid hx64; clear hch hct hle t3 hxi hx64
                  refine wp_region_sf (fun | 7 => some (SF.one x) | 12 => some (SF.icx ll) | 13 => some (SF.val (.int .i64 1)) | _ => none) (by kernel_rfl) (by kernel_rfl) ?_
                  repeat (first | (refine wpE_skipK ?_ ?_; (focus ((first | refine wanted_notF rfl rfl ?_ | refine wanted_notT rfl rfl ?_); (focus (simp only [List.getElem?_toArray, List.getElem?_cons_succ, List.getElem?_cons_zero]; done)))); intro K hK; go_simp; apply hK; clear hK K; (have hq9 : True := trivial); clear hq9) | (refine wpE_detN rfl rfl (fun K hK => ?_); apply Exists.intro; apply And.intro; (focus (rintro W ⟨hx, -⟩; obtain ⟨⟨c0, c1⟩, ⟨c2, c3⟩, c4⟩ := HK.out W hx; go_simp; all_goals rfl)); go_simp; apply hK; clear hK K; (have hq9 : True := trivial); clear hq9) | (refine wpE_detK rfl ?_ ?_; (focus (refine wanted_so rfl rfl ?_; (focus (simp only [List.getElem?_toArray, List.getElem?_cons_succ, List.getElem?_cons_zero]; done)))); intro K hK; apply Exists.intro; apply And.intro; (focus (rintro W ⟨hx, -⟩; obtain ⟨⟨c0, c1⟩, ⟨c2, c3⟩, c4⟩ := HK.out W hx; go_simp; all_goals rfl)); go_simp; apply hK; clear hK K; (have hq9 : True := trivial); clear hq9))
                  (first | refine wpE_newN _ rfl rfl ?_ ?_ | (refine wpE_newK _ rfl ?_ ?_ ?_; (focus (refine wanted_so rfl rfl ?_; (focus (simp only [List.getElem?_toArray, List.getElem?_cons_succ, List.getElem?_cons_zero]; done))))))
                  · rintro W ⟨hW, -⟩
                    go_simp
                    exact ⟨(Ext.rfl' _).al _, W.heap.size, rfl, by simp, (Blk.new W _ _).cell 0⟩
                  rintro _ ⟨_, gb, rfl, -⟩ K hK
                  go_simp; apply hK; clear hK K; (have hq9 : True := trivial); clear hq9
                  repeat (first | (refine wpE_skipK ?_ ?_; (focus ((first | refine wanted_notF rfl rfl ?_ | refine wanted_notT rfl rfl ?_); (focus (simp only [List.getElem?_toArray, List.getElem?_cons_succ, List.getElem?_cons_zero]; done)))); intro K hK; go_simp; apply hK; clear hK K; (have hq9 : True := trivial); clear hq9) | (refine wpE_detN rfl rfl (fun K hK => ?_); apply Exists.intro; apply And.intro; (focus (rintro W ⟨hx, -⟩; obtain ⟨⟨c0, c1⟩, ⟨c2, c3⟩, c4⟩ := HK.out W hx; go_simp; all_goals rfl)); go_simp; apply hK; clear hK K; (have hq9 : True := trivial); clear hq9) | (refine wpE_detK rfl ?_ ?_; (focus (refine wanted_so rfl rfl ?_; (focus (simp only [List.getElem?_toArray, List.getElem?_cons_succ, List.getElem?_cons_zero]; done)))); intro K hK; apply Exists.intro; apply And.intro; (focus (rintro W ⟨hx, -⟩; obtain ⟨⟨c0, c1⟩, ⟨c2, c3⟩, c4⟩ := HK.out W hx; go_simp; all_goals rfl)); go_simp; apply hK; clear hK K; (have hq9 : True := trivial); clear hq9))
                  (first | refine wpE_newN _ rfl rfl ?_ ?_ | (refine wpE_newK _ rfl ?_ ?_ ?_; (focus (refine wanted_so rfl rfl ?_; (focus (simp only [List.getElem?_toArray, List.getElem?_cons_succ, List.getElem?_cons_zero]; done))))))
                  · rintro W ⟨hW, -⟩
                    go_simp
                    refine ⟨Ext.rfl' _, (Hch.out W hW).mono fun e W' hr => ?_⟩
                    obtain ⟨A', c', rfl, h1, h2, h3⟩ := hr
                    exact ⟨_, rfl, h3, A', c', rfl, h1, h2⟩
                  rintro _ ⟨_, X, xc, rfl, -, -⟩ K hK
                  go_simp; apply hK; clear hK K; (have hq9 : True := trivial); clear hq9
                  repeat (first | (refine wpE_skipK ?_ ?_; (focus ((first | refine wanted_notF rfl rfl ?_ | refine wanted_notT rfl rfl ?_); (focus (simp only [List.getElem?_toArray, List.getElem?_cons_succ, List.getElem?_cons_zero]; done)))); intro K hK; go_simp; apply hK; clear hK K; (have hq9 : True := trivial); clear hq9) | (refine wpE_detN rfl rfl (fun K hK => ?_); apply Exists.intro; apply And.intro; (focus (rintro W ⟨hx, -⟩; obtain ⟨⟨c0, c1⟩, ⟨c2, c3⟩, c4⟩ := HK.out W hx; go_simp; all_goals rfl)); go_simp; apply hK; clear hK K; (have hq9 : True := trivial); clear hq9) | (refine wpE_detK rfl ?_ ?_; (focus (refine wanted_so rfl rfl ?_; (focus (simp only [List.getElem?_toArray, List.getElem?_cons_succ, List.getElem?_cons_zero]; done)))); intro K hK; apply Exists.intro; apply And.intro; (focus (rintro W ⟨hx, -⟩; obtain ⟨⟨c0, c1⟩, ⟨c2, c3⟩, c4⟩ := HK.out W hx; go_simp; all_goals rfl)); go_simp; apply hK; clear hK K; (have hq9 : True := trivial); clear hq9))
                  (first | refine wpE_newN _ rfl rfl ?_ ?_ | (refine wpE_newK _ rfl ?_ ?_ ?_; (focus (refine wanted_so rfl rfl ?_; (focus (simp only [List.getElem?_toArray, List.getElem?_cons_succ, List.getElem?_cons_zero]; done))))))
                  · rintro W ⟨hW, hGx⟩
                    obtain ⟨g', e1, -, hcb9⟩ := (hGx ⟨7, .data⟩ (by simp) rfl).1.2 rfl
                    cases e1
                    obtain ⟨_, _, e2, r9, -⟩ := (hGx ⟨12, .data⟩ (by simp) rfl).2 rfl
                    cases e2
                    clear hGx
                    go_simp
                    exact ⟨Ext.rfl' _, (Hct.out W hW gb X xc (RInts.one hcb9 Hx64.out) r9).mono fun e W' ⟨he, hb⟩ => ⟨_, he, hb, rfl⟩⟩
                  rintro _ ⟨_, rfl⟩ K hK
                  go_simp; apply hK; clear hK K; (have hq9 : True := trivial); clear hq9
                  repeat (first | (refine wpE_skipK ?_ ?_; (focus ((first | refine wanted_notF rfl rfl ?_ | refine wanted_notT rfl rfl ?_); (focus (simp only [List.getElem?_toArray, List.getElem?_cons_succ, List.getElem?_cons_zero]; done)))); intro K hK; go_simp; apply hK; clear hK K; (have hq9 : True := trivial); clear hq9) | (refine wpE_detN rfl rfl (fun K hK => ?_); apply Exists.intro; apply And.intro; (focus (rintro W ⟨hx, -⟩; obtain ⟨⟨c0, c1⟩, ⟨c2, c3⟩, c4⟩ := HK.out W hx; go_simp; all_goals rfl)); go_simp; apply hK; clear hK K; (have hq9 : True := trivial); clear hq9) | (refine wpE_detK rfl ?_ ?_; (focus (refine wanted_so rfl rfl ?_; (focus (simp only [List.getElem?_toArray, List.getElem?_cons_succ, List.getElem?_cons_zero]; done)))); intro K hK; apply Exists.intro; apply And.intro; (focus (rintro W ⟨hx, -⟩; obtain ⟨⟨c0, c1⟩, ⟨c2, c3⟩, c4⟩ := HK.out W hx; go_simp; all_goals rfl)); go_simp; apply hK; clear hK K; (have hq9 : True := trivial); clear hq9))
                  apply wpE_nil
                  rintro W ⟨hW, hGx⟩
                  clear hGx
                  go_wp2_with fail
                  go_roundw
                  case rel => exact ⟨j + 1, by omega, by go_num, hxw.tr (xi.tr hW)⟩
                  case measure => simp [intOf]; omega
                · obtain rfl : j = l[k2].premises.length := by omega
                  go_wp2_with fail
                  go_roundw
                  case rel => exact ⟨m + 1, by omega, by go_num, hx.tr (hb10.tr (hxv.tr hxw))⟩
                  case measure => simp [intOf]; omega
        · obtain rfl : m = L.length := by omega
          go_wp2_with fail
          go_ret
          exact ⟨rfl, x0.tr yo⟩
end Go.Proofs.YtimkijmjbnmcbaaGreat
