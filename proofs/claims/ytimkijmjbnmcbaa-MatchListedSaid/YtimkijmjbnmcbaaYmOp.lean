/- Contract: List (the reference). -/
import Derived.Test.YtimkijmjbnmcbaaYmOn
import Derived.Test.YtimkijmjbnmcbaaYm19
namespace Go.Proofs.Ytimkijmjbnmcbaa
open Go Go.RowKit
theorem RInsts.none_ (w : World) (A : Option Addr) : RInsts w A [] := ⟨by simp, fun h => absurd h (by simp)⟩
def rOut (L : List Inst) (q : Problem) (pos : List Int) (x : Rule) (j : Int) (cs : List (List Int)) (i : Nat) : List Inst := L ++ refOut q pos x j (cs.take i)
def rIn (L : List Inst) (q : Problem) (pos : List Int) (x : Rule) (j : Int) (c : List Int) (ss : List (List Int)) (i : Nat) : List Inst := L ++ refIn q pos x j c (ss.take i)
theorem rIn_succ {L : List Inst} {q : Problem} {pos : List Int} {x : Rule} {j : Int} {c : List Int} {ss : List (List Int)} {i : Nat} (h : i < ss.length) : rIn L q pos x j c ss (i + 1) = rIn L q pos x j c ss i ++ if keepB q pos x j c (row ss i) then [⟨j, c, row ss i⟩] else [] := by
  unfold rIn refIn
  rw [List.take_succ_eq_append_getElem h, List.filter_append, List.map_append, List.append_assoc, row_eq h]
  congr 2
  cases hk : keepB q pos x j c ss[i] <;> simp [hk]
theorem rOut_succ {L : List Inst} {q : Problem} {pos : List Int} {x : Rule} {j : Int} {cs ss : List (List Int)} {i : Nat} (h : i < cs.length) (e : choicesR q.symbols x.letters.length = ss) : rOut L q pos x j cs (i + 1) = rIn (rOut L q pos x j cs i) q pos x j (row cs i) ss ss.length := by
  unfold rOut rIn refOut
  rw [List.take_succ_eq_append_getElem h, List.flatMap_append, List.append_assoc, row_eq h, e, List.take_length]
  simp
theorem rOut_zero (L : List Inst) (q : Problem) (pos : List Int) (x : Rule) (j : Int) (cs : List (List Int)) : rOut L q pos x j cs 0 = L := by simp [rOut, refOut]
theorem rIn_zero (L : List Inst) (q : Problem) (pos : List Int) (x : Rule) (j : Int) (c : List Int) (ss : List (List Int)) : rIn L q pos x j c ss 0 = L := by simp [rIn, refIn]
theorem rIn_le {L : List Inst} {q : Problem} {pos : List Int} {x : Rule} {j : Int} {c : List Int} {ss : List (List Int)} (i : Nat) : (rIn L q pos x j c ss i).length ≤ (rIn L q pos x j c ss ss.length).length := by
  by_cases h : i ≤ ss.length
  · have e : ss.take ss.length = ss.take i ++ ss.drop i := by rw [List.take_length, List.take_append_drop]
    unfold rIn refIn
    rw [e, List.filter_append, List.map_append]
    simp only [List.length_append]; omega
  · unfold rIn; rw [List.take_of_length_le (by omega), List.take_length]; exact Nat.le_refl _
theorem rOut_le {L : List Inst} {q : Problem} {pos : List Int} {x : Rule} {j : Int} {cs : List (List Int)} (i : Nat) : (rOut L q pos x j cs i).length ≤ (rOut L q pos x j cs cs.length).length := by
  by_cases h : i ≤ cs.length
  · have e : cs.take cs.length = cs.take i ++ cs.drop i := by rw [List.take_length, List.take_append_drop]
    unfold rOut refOut
    rw [e, List.flatMap_append]
    simp only [List.length_append]; omega
  · unfold rOut; rw [List.take_of_length_le (by omega), List.take_length]; exact Nat.le_refl _
theorem refTo_succ {q : Problem} {pos : List Int} {l : List Rule} {level : Int} {k : Nat} (h : k < l.length) : refTo q pos l level (k + 1) = refTo q pos l level k ++ refRule q pos l[k] level k := by
  unfold refTo; rw [List.range_succ, List.flatMap_append]; simp [ruleN_eq h]
theorem refTo_le (q : Problem) (pos : List Int) (l : List Rule) (level : Int) {k n : Nat} (h : k ≤ n) : (refTo q pos l level k).length ≤ (refTo q pos l level n).length := by
  obtain ⟨d, rfl⟩ := Nat.exists_eq_add_of_le h
  unfold refTo
  rw [List.range_add, List.flatMap_append, List.length_append]; omega
theorem refTo_skip {q : Problem} {pos : List Int} {l : List Rule} {level : Int} {k : Nat} (h : k < l.length) (hv : level < l[k].level) : refTo q pos l level (k + 1) = refTo q pos l level k := by rw [refTo_succ h]; unfold refRule; rw [if_pos hv, List.append_nil]
theorem refTo_go {q : Problem} {pos : List Int} {l : List Rule} {level : Int} {k : Nat} (h : k < l.length) (hv : ¬ level < l[k].level) : refTo q pos l level (k + 1) = rOut (refTo q pos l level k) q pos l[k] k (choicesR q.cells l[k].cells.length) (choicesR q.cells l[k].cells.length).length := by
  rw [refTo_succ h]; unfold refRule rOut; rw [if_neg hv, List.take_length]
theorem refListR_no {q : Problem} {l : List Rule} {pos : List Int} {level : Int} (h : libB q l pos = false) : refListR q l pos level = ([], libE q l pos) := by unfold refListR; rw [h]; rfl
theorem refListR_ok {q : Problem} {l : List Rule} {pos : List Int} {level : Int} (h : libB q l pos = true) : refListR q l pos level = (refTo q pos l level l.length, 0) := by unfold refListR; rw [h]; rfl
theorem choicesR_diff {n : Int} {k : Nat} {x : List Int} (h : x ∈ choicesR n k) : x.length = k ∧ diffB x n = true := by
  rw [← chR_true] at h; exact chR_in List.prefix_rfl h
theorem RSl.kbz {b0 : Nat} {K : Nat → Prop} {w w' : World} {A : Option Addr} {l : List (List Int)} (h : RSl 1 (RRowZ b0) w A l) (hk : KB K w w') (hA : ∀ ad, A = some ad → K ad.block) (hb : ∀ b, b0 ≤ b → K b) : RSl 1 (RRowZ b0) w' A l := by
  refine ⟨h.1, fun hp => ?_⟩
  obtain ⟨ad, e, hlt, hc⟩ := h.2 hp
  refine ⟨ad, e, Nat.lt_of_lt_of_le hlt hk.size, fun i hi => ?_⟩
  obtain ⟨vs, h1, ⟨B, c, e2, h2, h3, h4, h5⟩, h6⟩ := hc i hi
  exact ⟨vs, h1, ⟨B, c, e2, h2.kb hk fun ad e hp => hb _ (h5 ad e hp).2, h3, h4, fun ad e hp => ⟨(h5 ad e hp).1.kbz hk (hb _ (h5 ad e hp).2), (h5 ad e hp).2⟩⟩, fun j hj => hk.cell (by rw [block_of_add]; exact hA ad e) (h6 j hj)⟩
theorem RuleBox.kbz {K : Nat → Prop} {W V : World} {g : Nat} {x : Rule} {p : RPtr} (h : RuleBox W g x p) (hk : KB K W V) (hg : K g) : RuleBox V g x p := by
  obtain ⟨h0, h1, h2, h3, h4, h5, h6, h7⟩ := h
  exact ⟨hk.cell (p := ⟨g, 0, none⟩) hg h0, hk.cell (p := ⟨g, 1, none⟩) hg h1, hk.cell (p := ⟨g, 2, none⟩) hg h2, hk.cell (p := ⟨g, 3, none⟩) hg h3, hk.cell (p := ⟨g, 4, none⟩) hg h4, hk.cell (p := ⟨g, 5, none⟩) hg h5, hk.cell (p := ⟨g, 6, none⟩) hg h6, hk.cell (p := ⟨g, 7, none⟩) hg h7⟩
/-- A new box for an instance. -/
def SF.box (base : Nat) : SF := ⟨fun W v => ∃ g, v = .pointer (some ⟨g, 0, none⟩) ∧ base ≤ g ∧ Blk W g 40 #[.int .i64 0, .slice none 0 0, .slice none 0 0], fun _ _ _ hb ⟨g, e, h, h2⟩ => ⟨g, e, h, h2.ext hb⟩⟩
def RListBox (W : World) (g : Nat) (q : Problem) (p : PPtr) (n : Nat) (A : Option Addr) (a : Nat) (B : Option Addr) (bn bc : Nat) : Prop := ProbBox W g q p ∧ W.cell? ⟨g + 1, 0, none⟩ = some (.slice A n a) ∧ W.cell? ⟨g + 1, 1, none⟩ = some (.slice B bn bc)
set_option maxRecDepth 100000 in
set_option maxHeartbeats 8000000 in
theorem list33_ok (w : World) (q : Problem) (p : PPtr) (l : List Rule) (A : Option Addr) (a : Nat) (B : Option Addr) (bn bc : Nat) (P : Option Addr) (pn : Nat) (pos : List Int) (level : Int) (hq : RProb w q p) (hl : RRules w A l) (hP : RInts w P pos) (hlev : I64 level)
    (hN : (refTo q pos l level l.length).length ≤ 100000000) :
    Calls Try.prog 17 #[probV q p, libW l A a B bn bc, .slice P pos.length pn, .int .i64 level] w (RetList w (refListR q l pos level)) := by
  have x0 := ((Ext.rfl' w).al (probO q p)).al (libO l A a B bn bc)
  have hll := hl.len
  have F : ∀ V, Ext ((w.alloc (probO q p)).alloc (libO l A a B bn bc)) V → RListBox V w.heap.size q p l.length A a B bn bc := fun V hV =>
    ⟨probBox (((Ext.rfl' _).al _).tr hV) rfl, boxE hV (by simp) 0 _ rfl, boxE hV (by simp) 1 _ rfl⟩
  have HF := hid F; clear F
  obtain ⟨pa, pac, pb, pbc, pc, pcc⟩ := p
  obtain ⟨⟨f0, f1, f2, f3, f4⟩, f5, f6⟩ := HF.out _ (Ext.rfl' _)
  dsimp only at f2 f3 f4
  have HN := hid hN; have Hlev := hid hlev; clear hN hlev
  cases hlib : libB q l pos
  · have hne := libE_no hlib
    have Hr := hid (refListR_no (level := level) hlib); clear hlib
    go_enter Try.func17, Try.ntmps17
    go_wp2_with (go_at_call 37; refine (valid33_ok _ q ⟨pa, pac, pb, pbc, pc, pcc⟩ l A a B bn bc P pn pos (hq.to x0) (hl.to x0) (hP.to x0)).mono ?_; rintro e w1 ⟨rfl, hb1⟩)
    go_ret2
    exact ⟨none, 0, by rw [Hr.out]; rfl, by rw [Hr.out]; exact RInsts.none_ _ _, by rw [Hr.out]; exact Nat.le_refl _, x0.tr hb1⟩
  have hne : (libE q l pos != 0) = false := by rw [libE_ok hlib]; rfl
  have Hr := hid (refListR_ok (level := level) hlib)
  have hpos : checkB q pos = true := by
    have := hlib; simp only [libB, Bool.and_eq_true] at this
    exact this.1.1
  have Hpos := hid hpos; have Hlib := hid hlib; clear hpos hlib
  go_enter Try.func17, Try.ntmps17
  go_wp2_with (go_at_call 37; refine (valid33_ok _ q ⟨pa, pac, pb, pbc, pc, pcc⟩ l A a B bn bc P pn pos (hq.to x0) (hl.to x0) (hP.to x0)).mono ?_; rintro e w1 ⟨rfl, hb1⟩)
  clear f0 f1 f2 f3 f4 f5 f6
  go_loopw [11, 12, 13, 14, 15, 16, 17, 18] (fun o i _ _ _ _ _ _ wr => ∃ (k : Nat) (A1 : Option Addr) (c1 : Nat), k ≤ l.length ∧ i = .int .i64 k ∧ o = .slice A1 (refTo q pos l level k).length c1 ∧ OwnG EInst wr w1.heap.size noT A1 (refTo q pos l level k).length c1 (refTo q pos l level k) ∧ Ext w1 wr) (fun _ i _ _ _ _ _ _ _ => l.length - (intOf i).toNat)
  case atStart => exact ⟨0, none, 0, Nat.zero_le _, rfl, by simp [refTo], (OwnG.nil EInst _ _ _).as (by simp [refTo]) (by simp [refTo]), Ext.rfl' _⟩
  case round =>
    obtain ⟨k, A1, c1, hk, rfl, rfl, ho, hx⟩ := hrel
    obtain ⟨wo, rfl⟩ : ∃ wo : World, wo = wr := ⟨_, rfl⟩
    obtain ⟨⟨f0, f1, f2, f3, f4⟩, f5, f6⟩ := HF.out _ (hb1.tr hx)
    dsimp only at f2 f3 f4
    by_cases hlt : k < l.length
    · obtain ⟨ad, p', rfl, hab, hps, g0, g1, g2, g3, g4, g5, g6, g7⟩ := hl.ruleLoad k hlt
      obtain ⟨g0, g1, g2, g3, g4, g5, g6, g7⟩ := RuleAt.keep (x0.tr (hb1.tr hx)) (by rw [block_of_add]; exact hab) ⟨g0, g1, g2, g3, g4, g5, g6, g7⟩
      go_upto_region 9 with fail
      clear f0 f1 f2 f3 f4 f5 f6 g0 g1 g2 g3 g4 g5 g6 g7
      obtain ⟨wb, hwb⟩ : ∃ wb, wo.alloc (ruleO l[k] p') = wb := ⟨_, rfl⟩
      have xb : Ext wo wb := by rw [← hwb]; exact (Ext.rfl' _).al _
      have hrb : ∀ V, Ext wb V → RuleBox V wo.heap.size l[k] p' := fun V hV => ruleBox (by rw [hwb]; exact hV) rfl
      have Hrb := hid hrb; clear hrb
      rw [hwb]
      clear hwb
      have y1 := hb1.tr (hx.tr xb)
      obtain ⟨⟨f0, f1, f2, f3, f4⟩, f5, f6⟩ := HF.out _ y1
      dsimp only at f2 f3 f4
      obtain ⟨g0, g1, g2, g3, g4, g5, g6, g7⟩ := Hrb.out wb (Ext.rfl' _)
      have hvr := lib_rule Hlib.out hlt
      obtain ⟨v1, v2, ⟨v3, v4⟩, ⟨v5, v6⟩, v7, v8⟩ := valid_pre hvr
      have Hvr := hid hvr; clear hvr
      by_cases hv : level < l[k].level
      · have He1 := hid (refTo_skip (q := q) (pos := pos) hlt hv)
        go_wp2_with fail
        go_roundw
        case rel => exact ⟨k + 1, A1, c1, by omega, by go_num, by rw [He1.out], (ho.to xb).as (by rw [He1.out]) He1.out.symm, hx.tr xb⟩
        case measure => simp [intOf]; omega
      have He1 := hid (refTo_go (q := q) (pos := pos) hlt hv)
      have hqb := checkB_bd Hpos.out
      go_upto_region 11 with (go_at_call 46; refine (choices33_ok _ _ _ (by omega) (by omega)).mono ?_; rintro e w2 ⟨C, cc, rfl, hC, hCA, hx2⟩; clear f0 f1 f2 f3 f4 f5 f6 g0 g1 g2 g3 g4 g5 g6 g7)
      obtain ⟨⟨f0, f1, f2, f3, f4⟩, f5, f6⟩ := HF.out _ (y1.tr hx2)
      dsimp only at f2 f3 f4
      obtain ⟨g0, g1, g2, g3, g4, g5, g6, g7⟩ := Hrb.out w2 hx2
      go_upto_region 12 with (go_at_call 46; refine (choices33_ok _ _ _ (by omega) (by omega)).mono ?_; rintro e w3 ⟨D, dc, rfl, hD, hDA, hx3⟩; clear f0 f1 f2 f3 f4 f5 f6 g0 g1 g2 g3 g4 g5 g6 g7)
      have y3 := y1.tr (hx2.tr hx3)
      replace hC := hC.to RRowZ.keeps hx3
      have hcm : ∀ i, i < (choicesR q.cells l[k].cells.length).length → (row (choicesR q.cells l[k].cells.length) i).length = l[k].cells.length ∧ diffB (row (choicesR q.cells l[k].cells.length) i) q.cells = true := fun i hi => by
        rw [row_eq hi]; exact choicesR_diff (List.getElem_mem hi)
      have hdm : ∀ i, i < (choicesR q.symbols l[k].letters.length).length → (row (choicesR q.symbols l[k].letters.length) i).length = l[k].letters.length ∧ diffB (row (choicesR q.symbols l[k].letters.length) i) q.symbols = true := fun i hi => by
        rw [row_eq hi]; exact choicesR_diff (List.getElem_mem hi)
      have hos : ∀ (cs : List (List Int)) (i : Nat), i < cs.length → rOut (refTo q pos l level k) q pos l[k] k cs (i + 1) = rIn (rOut (refTo q pos l level k) q pos l[k] k cs i) q pos l[k] k (row cs i) (choicesR q.symbols l[k].letters.length) (choicesR q.symbols l[k].letters.length).length := fun cs i hi => rOut_succ hi rfl
      have hnb : (rOut (refTo q pos l level k) q pos l[k] k (choicesR q.cells l[k].cells.length) (choicesR q.cells l[k].cells.length).length).length ≤ 100000000 := by rw [← He1.out]; exact Nat.le_trans (refTo_le q pos l level (by omega)) HN.out
      have hcl : (choicesR q.cells l[k].cells.length).length ≤ 4294967296 := Nat.le_trans (choicesR_len (by omega) _) (Nat.le_trans (Nat.pow_le_pow_right (by decide) v1) (by decide))
      have hdl : (choicesR q.symbols l[k].letters.length).length ≤ 4294967296 := Nat.le_trans (choicesR_len (by omega) _) (Nat.le_trans (Nat.pow_le_pow_right (by decide) (show _ ≤ 4 by omega)) (by decide))
      have Hcm := hid hcm; have Hdm := hid hdm; have Hos := hid hos; have Hnb := hid hnb; clear hcm hdm hos hnb
      generalize choicesR q.cells l[k].cells.length = cs at *
      generalize choicesR q.symbols l[k].letters.length = ss at *
      have hoo := ho.to (xb.tr (hx2.tr hx3))
      have hxx := hx.tr (xb.tr (hx2.tr hx3))
      have zb : wo.heap.size ≤ wb.heap.size := xb.size
      have z2 := hx2.size
      have hCA2 : ∀ ad, C = some ad → wo.heap.size ≤ ad.block := fun ad e => Nat.le_trans zb (hCA ad e)
      have hDA2 : ∀ ad, D = some ad → wo.heap.size ≤ ad.block := fun ad e => by have := hDA ad e; omega
      have hrb3 := Hrb.out w3 (hx2.tr hx3)
      have hown : ∀ g, blockOf A1 = some g → g < wo.heap.size ∨ w3.heap.size ≤ g := fun g hg => .inl (ho.lt g hg).2
      have HCA := hid hCA2; have HDA := hid hDA2; have Hrb3 := hid hrb3; have Hown := hid hown; clear hCA hDA hCA2 hDA2 hrb3 hown Hrb
      go_wp2_with fail
      go_loopw [11, 16, 17, 18] (fun o i _ _ wv => ∃ (ii : Nat) (A2 : Option Addr) (c2 : Nat), ii ≤ cs.length ∧ i = .int .i64 ii ∧ o = .slice A2 (rOut (refTo q pos l level k) q pos l[k] k cs ii).length c2 ∧ OwnG EInst wv w1.heap.size noT A2 (rOut (refTo q pos l level k) q pos l[k] k cs ii).length c2 (rOut (refTo q pos l level k) q pos l[k] k cs ii) ∧ Ext w1 wv ∧ KB (fun b => wo.heap.size ≤ b) w3 wv ∧ Hid (∀ g, blockOf A2 = some g → g < wo.heap.size ∨ w3.heap.size ≤ g)) (fun _ i _ _ _ => cs.length - (intOf i).toNat)
      case atStart => exact ⟨0, A1, c1, Nat.zero_le _, rfl, by rw [rOut_zero], hoo.as (by rw [rOut_zero]) (by rw [rOut_zero]), hxx, KB.refl _ _, Hown⟩
      case round =>
        clear hoo hxx Hown
        obtain ⟨ii, A2, c2, hi, rfl, rfl, ho2, hx4, hx5, Ho2⟩ := hrel
        by_cases hlt2 : ii < cs.length
        · go_wp2_with fail
          obtain ⟨hc1, hc2⟩ := Hcm.out ii hlt2
          have Hos1 := hid (Hos.out cs ii hlt2)
          have hLL : (rIn (rOut (refTo q pos l level k) q pos l[k] k cs ii) q pos l[k] k (row cs ii) ss ss.length).length ≤ 100000000 := by rw [← Hos1.out]; exact Nat.le_trans (rOut_le _) Hnb.out
          have HLL := hid hLL; have Hc1 := hid hc1; have Hc2 := hid hc2; clear hLL hc1 hc2
          generalize rOut (refTo q pos l level k) q pos l[k] k cs ii = L at *
          go_loopw [11, 17, 18] (fun o i _ wu => ∃ (jj : Nat) (A3 : Option Addr) (c3 : Nat), jj ≤ ss.length ∧ i = .int .i64 jj ∧ o = .slice A3 (rIn L q pos l[k] k (row cs ii) ss jj).length c3 ∧ OwnG EInst wu w1.heap.size noT A3 (rIn L q pos l[k] k (row cs ii) ss jj).length c3 (rIn L q pos l[k] k (row cs ii) ss jj) ∧ Ext w1 wu ∧ KB (fun b => wo.heap.size ≤ b) w3 wu ∧ Hid (∀ g, blockOf A3 = some g → g < wo.heap.size ∨ w3.heap.size ≤ g)) (fun _ i _ _ => ss.length - (intOf i).toNat)
          case atStart => exact ⟨0, A2, c2, Nat.zero_le _, rfl, by rw [rIn_zero], ho2.as (by rw [rIn_zero]) (by rw [rIn_zero]), hx4, hx5, Ho2⟩
          case round =>
            clear ho2 hx4 hx5 Ho2
            obtain ⟨jj, A3, c3, hj, rfl, rfl, ho3, hx6, hx7, Ho3⟩ := hrel
            obtain ⟨wu, rfl⟩ : ∃ wu : World, wu = wr := ⟨_, rfl⟩
            by_cases hlt3 : jj < ss.length
            · obtain ⟨hs1, hs2⟩ := Hdm.out jj hlt3
              have Hs1 := hid hs1; have Hs2 := hid hs2; clear hs1 hs2
              go_wp2_with fail
              obtain ⟨ca, E, ec, rfl, hcab, hcc, hE, -, hec, hEi⟩ := rowzAt (RSl.kbz hC hx7 HCA.out fun b hb => Nat.le_trans zb hb) ii hlt2
              obtain ⟨da, G, gc, rfl, hdab, hdc, hGr, -, hgc, hGi⟩ := rowzAt (RSl.kbz hD hx7 HDA.out fun b hb => Nat.le_trans zb (Nat.le_trans z2 hb)) jj hlt3
              rw [← row_eq hlt2] at hcc hE hec hEi
              rw [← row_eq hlt3] at hdc hGr hgc hGi
              have F2 : ∀ V, Ext wu V → V.cell? (ca.add ii) = some (.slice E (row cs ii).length ec) ∧ V.cell? (da.add jj) = some (.slice G (row ss jj).length gc) := fun V hV =>
                ⟨cellE hV hcc (by rw [block_of_add]; exact hcab), cellE hV hdc (by rw [block_of_add]; exact hdab)⟩
              have HF2 := hid F2; clear F2 hcc hdc
              refine wp_region_sf_tail 11 (fun | 10 => some (SF.box wu.heap.size) | _ => none) (by kernel_rfl) (by kernel_rfl) ?_
              repeat (first | (refine wpE_skipK ?_ ?_; (focus ((first | refine wanted_notF rfl rfl ?_ | refine wanted_notT rfl rfl ?_); (focus (simp only [List.getElem?_toArray, List.getElem?_cons_succ, List.getElem?_cons_zero]; done)))); intro K hK; go_simp; apply hK; clear hK K; (have hq9 : True := trivial); clear hq9) | (refine wpE_detN rfl rfl (fun K hK => ?_); apply Exists.intro; apply And.intro; (focus (rintro W ⟨hx, -⟩; obtain ⟨f0, f1⟩ := HF2.out W hx; go_simp; all_goals rfl)); go_simp; apply hK; clear hK K; (have hq9 : True := trivial); clear hq9) | (refine wpE_detK rfl ?_ ?_; (focus (refine wanted_so rfl rfl ?_; (focus (simp only [List.getElem?_toArray, List.getElem?_cons_succ, List.getElem?_cons_zero]; done)))); intro K hK; apply Exists.intro; apply And.intro; (focus (rintro W ⟨hx, -⟩; obtain ⟨f0, f1⟩ := HF2.out W hx; go_simp; all_goals rfl)); go_simp; apply hK; clear hK K; (have hq9 : True := trivial); clear hq9))
              (first | refine wpE_newN _ rfl rfl ?_ ?_ | (refine wpE_newK _ rfl ?_ ?_ ?_; (focus (refine wanted_so rfl rfl ?_; (focus (simp only [List.getElem?_toArray, List.getElem?_cons_succ, List.getElem?_cons_zero]; done))))))
              · rintro W ⟨hW, -⟩
                go_simp
                exact ⟨(Ext.rfl' _).al _, _, rfl, hW.size, Blk.new _ _ _⟩
              rintro _ ⟨_, gy, rfl, -, -⟩ K hK
              go_simp; apply hK; clear hK K; (have hq9 : True := trivial); clear hq9
              apply wpE_nil
              rintro V ⟨hV, hG⟩
              obtain ⟨_, e1, hgb, hby⟩ := (hG 10).2 rfl
              cases e1
              clear hG
              have e0 := hby.cell 0; have e1 := hby.cell 1; have e2 := hby.cell 2
              have d0 := hby.frozen 0; have d1 := hby.frozen 1; have d2 := hby.frozen 2
              simp only [List.getElem?_toArray, List.getElem?_cons_zero, List.getElem?_cons_succ] at e0 e1 e2
              go_simp
              go_upto_region 19 with fail
              have by2 := ((hby.set 0 (.int .i64 (k : Int))).set 1 (.slice E (row cs ii).length ec)).set 2 (.slice G (row ss jj).length gc)
              have xy : Ext wu (((V.setCell ⟨gy, 0, none⟩ (.int .i64 (k : Int))).setCell ⟨gy, 1, none⟩ (.slice E (row cs ii).length ec)).setCell ⟨gy, 2, none⟩ (.slice G (row ss jj).length gc)) := ((hV.set (p := ⟨gy, 0, none⟩) hgb _).set (p := ⟨gy, 1, none⟩) hgb _).set (p := ⟨gy, 2, none⟩) hgb _
              simp only [List.setIfInBounds_toArray, List.set_cons_zero, List.set_cons_succ] at by2
              clear e0 e1 e2 d0 d1 d2 hby hV
              generalize ((V.setCell ⟨gy, 0, none⟩ (.int .i64 (k : Int))).setCell ⟨gy, 1, none⟩ (.slice E (row cs ii).length ec)).setCell ⟨gy, 2, none⟩ (.slice G (row ss jj).length gc) = Vy at *
              have y6 := hb1.tr (hx6.tr xy)
              have hrbV := (Hrb3.out.kbz hx7 (Nat.le_refl _)).kbz (KB.of_ext (K := fun _ => True) xy) trivial
              have HrV := hid hrbV
              obtain ⟨⟨f0, f1, f2, f3, f4⟩, f5, f6⟩ := HF.out _ y6
              dsimp only at f2 f3 f4
              obtain ⟨g0, g1, g2, g3, g4, g5, g6, g7⟩ := hrbV
              have e0 := by2.cell 0; have e1 := by2.cell 1; have e2 := by2.cell 2
              simp only [List.getElem?_toArray, List.getElem?_cons_zero, List.getElem?_cons_succ] at e0 e1 e2
              have hin : RInstP Vy ⟨k, row cs ii, row ss jj⟩ ⟨E, ec, G, gc⟩ := ⟨hE.to xy, hGr.to xy, ⟨by show _ ≤ (k : Int); omega, by show (k : Int) ≤ _; omega⟩, hec, hgc⟩
              obtain ⟨b1, hb1'⟩ : ∃ b, fitB q pos l[k] ⟨k, row cs ii, row ss jj⟩ = b := ⟨_, rfl⟩
              obtain ⟨b2, hb2'⟩ : ∃ b, remB pos l[k] (row cs ii) (row ss jj) = b := ⟨_, rfl⟩
              have hfit := fitting33_ok Vy q ⟨pa, pac, pb, pbc, pc, pcc⟩ P pn pos l[k] p' ⟨k, row cs ii, row ss jj⟩ ⟨E, ec, G, gc⟩ (hq.to (x0.tr y6)) (hP.to (x0.tr y6)) (hps.to (x0.tr y6)) hin Hpos.out Hvr.out Hc1.out Hs1.out
              have hc0 := diff_iff Hc2.out _ (num_mem (l := row cs ii) (k := l[k].cell.toNat) (by rw [Hc1.out]; omega))
              have hs0 := diff_iff Hs2.out _ (num_mem (l := row ss jj) (k := l[k].letter.toNat) (by rw [Hs1.out]; omega))
              have hrem : ∀ Z, Ext Vy Z → Calls Try.prog 47 #[ruleV l[k] p', .slice P pos.length pn, instW ⟨k, row cs ii, row ss jj⟩ ⟨E, ec, G, gc⟩] Z fun e w' => e = .returned (.bool b2) ∧ Ext Z w' := fun Z hZ => by
                rw [← hb2']
                exact removes33_ok Z l[k] p' P pn pos ⟨k, row cs ii, row ss jj⟩ ⟨E, ec, G, gc⟩ (hP.to (x0.tr (y6.tr hZ))) (hin.to hZ) v3 (by show _ < ((row cs ii).length : Int); rw [Hc1.out]; exact v4) hc0.1 (by have := hc0.2; dsimp only; omega) v5 (by show _ < ((row ss jj).length : Int); rw [Hs1.out]; exact v6) hs0.1 (by have := hs0.2; dsimp only; omega)
              rw [hb1'] at hfit
              have hkeep : keepB q pos l[k] k (row cs ii) (row ss jj) = (b1 && b2) := by unfold keepB; rw [hb1', hb2']
              have Hsucc := hid (rIn_succ (L := L) (q := q) (pos := pos) (x := l[k]) (j := k) (c := row cs ii) hlt3)
              have Hfit := hid hfit; have Hrem := hid hrem; have Hkeep := hid hkeep; have Hin := hid hin
              clear hfit hrem hkeep hb1' hb2' hc0 hs0 hin
              cases b1
              · go_wp2_with (go_at_call 39; refine Hfit.out.mono ?_; rintro e w8 ⟨rfl, hb8⟩)
                have xx := xy.tr hb8
                have e9 : rIn L q pos l[k] k (row cs ii) ss (jj + 1) = rIn L q pos l[k] k (row cs ii) ss jj := by rw [Hsucc.out, Hkeep.out]; simp
                have He9 := hid e9; clear e9
                go_roundw
                case rel => exact ⟨jj + 1, A3, c3, by omega, by go_num, by rw [He9.out], (ho3.to xx).as (by rw [He9.out]) He9.out.symm, hx6.tr xx, hx7.ext xx, Ho3⟩
                case measure => simp [intOf]; omega
              cases b2
              · go_wp2_with (first
                  | (go_at_call 39; refine Hfit.out.mono ?_; rintro e w8 ⟨rfl, hb8⟩; clear g0 g1 g2 g3 g4 g5 g6 g7 e0 e1 e2; obtain ⟨g0, g1, g2, g3, g4, g5, g6, g7⟩ := HrV.out.kbz (KB.of_ext (K := fun _ => True) hb8) trivial; have e0 := (by2.ext hb8).cell 0; have e1 := (by2.ext hb8).cell 1; have e2 := (by2.ext hb8).cell 2; simp only [List.getElem?_toArray, List.getElem?_cons_zero, List.getElem?_cons_succ] at e0 e1 e2)
                  | (go_at_call 47; refine (Hrem.out _ hb8).mono ?_; rintro e w9 ⟨rfl, hb9⟩))
                have xx := xy.tr (hb8.tr hb9)
                have e9 : rIn L q pos l[k] k (row cs ii) ss (jj + 1) = rIn L q pos l[k] k (row cs ii) ss jj := by rw [Hsucc.out, Hkeep.out]; simp
                have He9 := hid e9; clear e9
                go_roundw
                case rel => exact ⟨jj + 1, A3, c3, by omega, by go_num, by rw [He9.out], (ho3.to xx).as (by rw [He9.out]) He9.out.symm, hx6.tr xx, hx7.ext xx, Ho3⟩
                case measure => simp [intOf]; omega
              · have e9 : rIn L q pos l[k] k (row cs ii) ss (jj + 1) = rIn L q pos l[k] k (row cs ii) ss jj ++ [⟨k, row cs ii, row ss jj⟩] := by rw [Hsucc.out, Hkeep.out]; simp
                have hlen : (rIn L q pos l[k] k (row cs ii) ss jj).length + 1 ≤ 100000000 := by
                  have h1 := rIn_le (L := L) (q := q) (pos := pos) (x := l[k]) (j := k) (c := row cs ii) (ss := ss) (jj + 1)
                  have h2 := HLL.out
                  rw [e9, List.length_append, List.length_singleton] at h1
                  omega
                have He9 := hid e9; clear e9
                go_upto_region 20 with (first
                  | (go_at_call 39; refine Hfit.out.mono ?_; rintro e w8 ⟨rfl, hb8⟩; clear g0 g1 g2 g3 g4 g5 g6 g7 e0 e1 e2; obtain ⟨g0, g1, g2, g3, g4, g5, g6, g7⟩ := HrV.out.kbz (KB.of_ext (K := fun _ => True) hb8) trivial; have e0 := (by2.ext hb8).cell 0; have e1 := (by2.ext hb8).cell 1; have e2 := (by2.ext hb8).cell 2; simp only [List.getElem?_toArray, List.getElem?_cons_zero, List.getElem?_cons_succ] at e0 e1 e2)
                  | (go_at_call 47; refine (Hrem.out _ hb8).mono ?_; rintro e w9 ⟨rfl, hb9⟩; clear g0 g1 g2 g3 g4 g5 g6 g7 e0 e1 e2))
                have hb89 := hb8.tr hb9
                have e0 := (by2.ext hb89).cell 0; have e1 := (by2.ext hb89).cell 1; have e2 := (by2.ext hb89).cell 2
                simp only [List.getElem?_toArray, List.getElem?_cons_zero, List.getElem?_cons_succ] at e0 e1 e2
                have xx := xy.tr hb89
                have hB9 := Blk.new w9 40 #[.int .i64 (k : Int), .slice E (row cs ii).length ec, .slice G (row ss jj).length gc]
                have xz : Ext w9 (w9.alloc (.cells #[.int .i64 (k : Int), .slice E (row cs ii).length ec, .slice G (row ss jj).length gc] 40)) := (Ext.rfl' _).al _
                have xa := xx.tr xz
                have ho9 := ho3.to xa
                have hlie : LieOff EInst (offOf noT A3) (w9.alloc (.cells #[.int .i64 (k : Int), .slice E (row cs ii).length ec, .slice G (row ss jj).length gc] 40)) [instCells ⟨k, row cs ii, row ss jj⟩ ⟨E, ec, G, gc⟩] [⟨k, row cs ii, row ss jj⟩] := by
                  refine instLie (Hin.out.to (hb89.tr xz)) (fun ad e hp => ?_) (fun ad e hp => ?_)
                  · rintro (h | h)
                    · exact h
                    · exact ho3.not_int (hEi ad e hp).1 h
                  · rintro (h | h)
                    · exact h
                    · exact ho3.not_int (hGi ad e hp).1 h
                have hcel : ∀ j u, [instCells ⟨k, row cs ii, row ss jj⟩ ⟨E, ec, G, gc⟩].flatten[j]? = some u → (w9.alloc (.cells #[.int .i64 (k : Int), .slice E (row cs ii).length ec, .slice G (row ss jj).length gc] 40)).cell? ((⟨w9.heap.size, 0, none⟩ : Addr).add j) = some u := by
                  intro j u hu
                  have e : (⟨w9.heap.size, 0, none⟩ : Addr).add j = ⟨w9.heap.size, j, none⟩ := by unfold Addr.add; simp; intro h; exact h.symm
                  rw [e, hB9.cell]
                  simpa [instCells] using hu
                have hbs : w1.heap.size ≤ (w9.alloc (.cells #[.int .i64 (k : Int), .slice E (row cs ii).length ec, .slice G (row ss jj).length gc] 40)).heap.size := (hx6.tr xa).size
                have Hlie := hid hlie; have Hcel := hid hcel; have Hbs := hid hbs; clear hlie hcel hbs hB9
                go_wp2_with (at_builtin; refine app_g EInst w1.heap.size Hbs.out rfl _ _ rfl noT A3 (rIn L q pos l[k] k (row cs ii) ss jj).length c3 (rIn L q pos l[k] k (row cs ii) ss jj) rfl ho9 ⟨w9.heap.size, 0, none⟩ 1 1 rfl [⟨k, row cs ii, row ss jj⟩] [instCells ⟨k, row cs ii, row ss jj⟩ ⟨E, ec, G, gc⟩] rfl Hlie.out Hcel.out (by show (_ + 1) * 56 ≤ _; omega) (by simp [maxLen]; omega) ?_; intro A4 c4 w10 hg4)
                have hx10 : Ext w1 w10 := OwnG.ext (hx6.tr xa) ho9 hg4.grown
                have hk10 : KB (fun b => wo.heap.size ≤ b) w3 w10 := hx7.seq ((KB.of_ext (K := fun b => blockOf A3 ≠ some b) xa).tr (hg4.kb fun g hg h => h hg)) fun i hi hk e => by
                  rcases Ho3.out i e with h | h <;> omega
                have ho10 : ∀ g, blockOf A4 = some g → g < wo.heap.size ∨ w3.heap.size ≤ g := fun g hg => by
                  rcases hg4.where_ with e | ⟨g', e, hge⟩
                  · rw [e] at hg; exact Ho3.out g hg
                  · rw [e] at hg
                    have e2 : g' = g := by simpa using hg
                    subst e2
                    have := hx7.size; have := xa.size
                    right; omega
                have Ho10 := hid ho10; clear ho10
                have hown4 := hg4.own
                go_roundw
                case rel => exact ⟨jj + 1, A4, c4, by omega, by go_num, by rw [He9.out, List.length_append]; rfl, by have h9 := hown4; rw [← He9.out] at h9; exact h9.as (by rw [He9.out, List.length_append]; rfl) rfl, hx10, hk10, Ho10⟩
                case measure => simp [intOf]; omega
            · obtain rfl : jj = ss.length := by omega
              rw [← Hos1.out]
              rw [← Hos1.out] at ho3
              go_wp2_with fail
              go_roundw
              case rel => exact ⟨ii + 1, A3, c3, by omega, by go_num, rfl, ho3, hx6, hx7, Ho3⟩
              case measure => simp [intOf]; omega
        · obtain rfl : ii = cs.length := by omega
          rw [← He1.out]
          rw [← He1.out] at ho2
          go_wp2_with fail
          go_roundw
          case rel => exact ⟨k + 1, A2, c2, by omega, by go_num, rfl, ho2, hx4⟩
          case measure => simp [intOf]; omega
    · obtain rfl : k = l.length := by omega
      go_wp2_with fail
      go_ret2
      have h1 := ho.insts (by have := HN.out; omega)
      exact ⟨A1, c1, by rw [Hr.out]; rfl, by rw [Hr.out]; exact h1.1, by rw [Hr.out]; exact h1.2, x0.tr (hb1.tr hx)⟩
end Go.Proofs.Ytimkijmjbnmcbaa
