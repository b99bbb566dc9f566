/- Contract: the law on levels holds. -/
import Derived.Test.YtimkijmjbnmcbaaYmLc
namespace Go.Proofs.Ytimkijmjbnmcbaa
open Go Go.RowKit
def lvlB (l : List Rule) (level : Int) (i : Inst) : Bool := decide ((ruleN l i.rule.toNat).level ≤ level)
theorem inL_rule {q : Problem} {pos : List Int} {x : Rule} {j : Int} {c : List Int} {ss : List (List Int)} : ∀ i ∈ inL q pos x j c ss, i.rule = j := by
  intro i hi
  unfold inL at hi
  obtain ⟨s, -, rfl⟩ := List.mem_map.1 hi
  rfl
theorem outL_rule {q : Problem} {pos : List Int} {x : Rule} {j : Int} {cs : List (List Int)} : ∀ i ∈ outL q pos x j cs, i.rule = j := by
  intro i hi
  unfold outL at hi
  obtain ⟨c, -, h⟩ := List.mem_flatMap.1 hi
  exact inL_rule i h
theorem ruleL_rule {q : Problem} {pos : List Int} {x : Rule} {level j : Int} : ∀ i ∈ ruleL q pos x level j, i.rule = j := by
  intro i hi
  unfold ruleL at hi
  split at hi
  · simp at hi
  · exact outL_rule i hi
theorem ruleL_lvl {q : Problem} {pos : List Int} {l : List Rule} {level : Int} {k : Nat} (hk : k < l.length) (hv : l[k].level ≤ 8) : (ruleL q pos l[k] 8 k).filter (lvlB l level) = ruleL q pos l[k] level k := by
  have hr : ruleN l ((k : Int).toNat) = l[k] := by rw [show ((k : Int).toNat) = k from by omega, ruleN_eq hk]
  by_cases h : level < l[k].level
  · have e : ruleL q pos l[k] level k = [] := by unfold ruleL; rw [if_pos h]
    rw [e, List.filter_eq_nil_iff]
    intro i hi
    unfold lvlB
    rw [ruleL_rule i hi, hr]
    simpa using h
  · have e : ruleL q pos l[k] level k = ruleL q pos l[k] 8 k := by unfold ruleL; rw [if_neg h, if_neg (by omega)]
    rw [e, List.filter_eq_self]
    intro i hi
    unfold lvlB
    rw [ruleL_rule i hi, hr]
    simpa using h
theorem listTo_lvl {q : Problem} {pos : List Int} {l : List Rule} {level : Int} (hv : ∀ k (h : k < l.length), l[k].level ≤ 8) : ∀ k, k ≤ l.length → (listTo q pos l 8 k).filter (lvlB l level) = listTo q pos l level k
  | 0, _ => by simp [listTo]
  | k + 1, h => by
    rw [listTo_succ (by omega), listTo_succ (by omega), List.filter_append, listTo_lvl hv k (by omega), ruleL_lvl (by omega) (hv k (by omega))]
theorem listTo_rule {q : Problem} {pos : List Int} {l : List Rule} {level : Int} : ∀ k, k ≤ l.length → ∀ i ∈ listTo q pos l level k, ∃ j : Nat, j < l.length ∧ i.rule = j
  | 0, _ => by simp [listTo]
  | k + 1, h => by
    intro i hi
    rw [listTo_succ (by omega)] at hi
    rcases List.mem_append.1 hi with hi | hi
    · exact listTo_rule k (by omega) i hi
    · exact ⟨k, by omega, ruleL_rule i hi⟩
/-- All levels' instances, those of the level. -/
theorem listR_lvl (q : Problem) (l : List Rule) (pos : List Int) (level : Int) : (listR q l pos 8).2 = (listR q l pos level).2 ∧ (listR q l pos 8).1.filter (lvlB l level) = (listR q l pos level).1 ∧ ∀ i ∈ (listR q l pos 8).1, ∃ j : Nat, j < l.length ∧ i.rule = j := by
  cases hb : libB q l pos
  · rw [listR_lib hb, listR_lib hb]; simp
  cases hd : deadB pos
  · rw [listR_live hb hd, listR_live hb hd]
    exact ⟨rfl, listTo_lvl (fun k h => (valid_pre (lib_rule hb h)).2.2.2.2.1) _ (Nat.le_refl _), listTo_rule _ (Nat.le_refl _)⟩
  · rw [listR_dead hb hd, listR_dead hb hd]; simp
theorem listR_len {q : Problem} {l : List Rule} {pos : List Int} {level : Int} (h : SmallF q l) : (listR q l pos level).1.length ≤ 100000000 := by
  unfold listR
  split
  · split
    · simp
    · exact listTo_bd h
  · simp
theorem filt_succ {l : List Rule} {level : Int} {L : List Inst} {k : Nat} (h : k < L.length) : (L.take (k + 1)).filter (lvlB l level) = (L.take k).filter (lvlB l level) ++ if lvlB l level L[k] then [L[k]] else [] := by
  rw [List.take_succ_eq_append_getElem h, List.filter_append]
  congr 1
  cases e : lvlB l level L[k] <;> simp [e]
set_option maxRecDepth 100000 in
set_option maxHeartbeats 8000000 in
theorem lLevels_ok (w : World) (q : Problem) (p : PPtr) (l : List Rule) (A : Option Addr) (a : Nat) (B : Option Addr) (bn bc : Nat) (P : Option Addr) (pn : Nat) (pos : List Int) (level : Int) (hq : RProb w q p) (hl : RRules w A l) (hP : RInts w P pos) (hlev : I64 level) :
    Calls Try.prog 8 #[probV q p, libW l A a B bn bc, .slice P pos.length pn, .int .i64 level] w fun e w' => e = .returned (.bool true) ∧ Ext w w' := by
  have x0 := ((Ext.rfl' w).al (probO q p)).al (libO l A a B bn bc)
  have hll := hl.len
  have F : ∀ V, Ext ((w.alloc (probO q p)).alloc (libO l A a B bn bc)) V → RListBox V w.heap.size q p l.length A a B bn bc := fun V hV =>
    ⟨probBox (((Ext.rfl' _).al _).tr hV) rfl, boxE hV (by simp) 0 _ rfl, boxE hV (by simp) 1 _ rfl⟩
  have HF := hid F; clear F
  obtain ⟨pa, pac, pb, pbc, pc, pcc⟩ := p
  have sm := fun V hV => small33_ok V q ⟨pa, pac, pb, pbc, pc, pcc⟩ l A a B bn bc (hq.to (x0.tr hV)) (hl.to (x0.tr hV))
  have m1 := fun (h : SmallF q l) V hV => mList_ok V q ⟨pa, pac, pb, pbc, pc, pcc⟩ l A a B bn bc P pn pos 8 (hq.to (x0.tr hV)) (hl.to (x0.tr hV)) (hP.to (x0.tr hV)) ⟨by decide, by decide⟩ (listTo_bd h)
  have m2 := fun (h : SmallF q l) V hV => mList_ok V q ⟨pa, pac, pb, pbc, pc, pcc⟩ l A a B bn bc P pn pos level (hq.to (x0.tr hV)) (hl.to (x0.tr hV)) (hP.to (x0.tr hV)) hlev (listTo_bd h)
  have hn := fun (h : SmallF q l) => listR_len (pos := pos) (level := 8) h
  obtain ⟨l1, l2, l3⟩ := listR_lvl q l pos level
  unfold RetList at m1 m2
  obtain ⟨r1, r2, hr⟩ : ∃ a b, listR q l pos 8 = (a, b) := ⟨_, _, rfl⟩
  obtain ⟨s1, s2, hs⟩ : ∃ a b, listR q l pos level = (a, b) := ⟨_, _, rfl⟩
  rw [hr] at m1 l1 l2 l3 hn
  rw [hs] at m2 l1 l2
  dsimp only at m1 m2 l1 l2 l3 hn
  subst l1
  have Sm := hid sm; have M1 := hid m1; have M2 := hid m2; have Hlev := hid hlev; have Hn := hid hn; have L2 := hid l2; have L3 := hid l3; clear sm m1 m2 hr hs hlev hn l2 l3
  go_enter Try.func8, Try.ntmps8
  go_upto_region 3 with (go_at_call 9; refine (sane33_ok _).mono ?_; rintro e w1 ⟨rfl, hb1⟩)
  obtain ⟨⟨f0, f1, f2, f3, f4⟩, f5, f6⟩ := HF.out _ hb1
  dsimp only at f2 f3 f4
  go_wp2_with fail
  refine (Sm.out _ hb1).mono ?_
  rintro e w2 ⟨bf, rfl, hf, hb2⟩
  have y2 := hb1.tr hb2
  have Hf := hid hf; clear hf
  clear f0 f1 f2 f3 f4 f5 f6
  obtain ⟨⟨f0, f1, f2, f3, f4⟩, f5, f6⟩ := HF.out _ y2
  dsimp only at f2 f3 f4
  cases bf
  · go_wp2_with fail
    go_ret
    exact ⟨rfl, x0.tr y2⟩
  have hF := Hf.out rfl
  have hN := Hn.out hF
  have HS := hid hF; have HN := hid hN; clear hF hN
  go_wp2_with fail
  refine (M1.out HS.out _ y2).mono ?_
  rintro e w3 ⟨X, xc, rfl, hX, -, hb3⟩
  have y3 := y2.tr hb3
  clear f0 f1 f2 f3 f4 f5 f6
  obtain ⟨⟨f0, f1, f2, f3, f4⟩, f5, f6⟩ := HF.out _ y3
  dsimp only at f2 f3 f4
  go_wp2_with fail
  refine (M2.out HS.out _ y3).mono ?_
  rintro e w4 ⟨Y, yc, rfl, hY, -, hb4⟩
  have y4 := y3.tr hb4
  have hX4 := hX.to hb4
  have hXl := hX4.len
  have hne : (r2 != r2) = false := by simp
  clear f0 f1 f2 f3 f4 f5 f6 hX
  go_wp2_with fail
  go_loopw [13, 15, 42] (fun o _ i wr => ∃ (k : Nat) (A1 : Option Addr) (c1 : Nat), k ≤ r1.length ∧ i = .int .i64 k ∧ o = .slice A1 ((r1.take k).filter (lvlB l level)).length c1 ∧ OwnG EInst wr w4.heap.size noT A1 ((r1.take k).filter (lvlB l level)).length c1 ((r1.take k).filter (lvlB l level)) ∧ Ext w4 wr) (fun _ _ i _ => r1.length - (intOf i).toNat)
  case atStart => exact ⟨0, none, 0, Nat.zero_le _, rfl, by simp, (OwnG.nil EInst _ _ _).as (by simp) (by simp), Ext.rfl' _⟩
  case round =>
    obtain ⟨k, A1, c1, hk, rfl, rfl, ho, hx⟩ := hrel
    obtain ⟨wo, rfl⟩ : ∃ wo : World, wo = wr := ⟨_, rfl⟩
    obtain ⟨⟨f0, f1, f2, f3, f4⟩, f5, f6⟩ := HF.out _ (y4.tr hx)
    dsimp only at f2 f3 f4
    by_cases hlt : k < r1.length
    · obtain ⟨ad, z, rfl, hab, hi, g0, g1, g2⟩ := hX4.instAt k hlt
      have hFs := filt_succ (l := l) (level := level) hlt
      obtain ⟨j, hj, ej⟩ := L3.out _ (List.getElem_mem hlt)
      have hlv : lvlB l level r1[k] = decide (l[j].level ≤ level) := by
        unfold lvlB; rw [ej, show ((j : Int).toNat) = j from by omega, ruleN_eq hj]
      obtain ⟨⟨rr, ci, si⟩, hri⟩ : ∃ i, r1[k] = i := ⟨_, rfl⟩
      rw [hri] at hi g0 g1 g2 hFs ej hlv
      dsimp only at g0 g1 g2 ej
      subst ej
      rw [hlv] at hFs
      obtain ⟨C, cc, D, dc⟩ := z
      dsimp only at g1 g2
      have k0 := cellE hx g0 (by rw [block_of_add]; exact hab)
      have k1 := cellE hx g1 (by rw [block_of_add]; exact hab)
      have k2 := cellE hx g2 (by rw [block_of_add]; exact hab)
      have HFs := hid hFs; have Hi := hid hi
      clear g0 g1 g2 hFs hlv hri hi
      go_upto_region 13 with fail
      clear f0 f1 f2 f3 f4 f5 f6 k0 k1 k2
      obtain ⟨wb, hwb⟩ : ∃ wb, wo.alloc (.cells #[.int .i64 (j : Int), .slice C ci.length cc, .slice D si.length dc] 40) = wb := ⟨_, rfl⟩
      have xb : Ext wo wb := by rw [← hwb]; exact (Ext.rfl' _).al _
      have hib : ∀ V, Ext wb V → V.cell? ⟨wo.heap.size, 0, none⟩ = some (.int .i64 (j : Int)) ∧ V.cell? ⟨wo.heap.size, 1, none⟩ = some (.slice C ci.length cc) ∧ V.cell? ⟨wo.heap.size, 2, none⟩ = some (.slice D si.length dc) := fun V hV =>
        ⟨boxE (by rw [hwb]; exact hV) rfl 0 _ rfl, boxE (by rw [hwb]; exact hV) rfl 1 _ rfl, boxE (by rw [hwb]; exact hV) rfl 2 _ rfl⟩
      rw [hwb]
      clear hwb
      obtain ⟨e0, e1, e2⟩ := hib wb (Ext.rfl' _)
      clear hib
      obtain ⟨⟨f0, f1, f2, f3, f4⟩, f5, f6⟩ := HF.out _ (y4.tr (hx.tr xb))
      dsimp only at f2 f3 f4
      obtain ⟨rd, p', rfl, hrb, -, g0, g1, -⟩ := hl.ruleLoad j hj
      have k1 := cellE (x0.tr (y4.tr (hx.tr xb))) g1 (by rw [block_of_add]; exact hrb)
      clear g0 g1
      by_cases hv : l[j].level ≤ level
      rotate_left
      · have e9 : (r1.take (k + 1)).filter (lvlB l level) = (r1.take k).filter (lvlB l level) := by rw [HFs.out, decide_eq_false hv]; simp
        have He9 := hid e9; clear e9
        have hv2 : level < l[j].level := by omega
        go_wp2_with fail
        go_roundw
        case rel => exact ⟨k + 1, A1, c1, by omega, by go_num, by rw [He9.out], (ho.to xb).as (by rw [He9.out]) He9.out.symm, hx.tr xb⟩
        case measure => simp [intOf]; omega
      have e9 : (r1.take (k + 1)).filter (lvlB l level) = (r1.take k).filter (lvlB l level) ++ [⟨j, ci, si⟩] := by rw [HFs.out, decide_eq_true hv]; rfl
      have hlen : ((r1.take k).filter (lvlB l level)).length + 1 ≤ 100000000 := by
        have h1 := List.length_filter_le (lvlB l level) (r1.take k)
        have h2 := HN.out
        have h3 : (r1.take k).length = k := List.length_take_of_le hk
        omega
      have He9 := hid e9; clear e9
      generalize hG : (r1.take k).filter (lvlB l level) = G at *
      have xz : Ext wb (wb.alloc (.cells #[.int .i64 (j : Int), .slice C ci.length cc, .slice D si.length dc] 40)) := (Ext.rfl' _).al _
      have xa := xb.tr xz
      have hB9 := Blk.new wb 40 #[.int .i64 (j : Int), .slice C ci.length cc, .slice D si.length dc]
      have ho9 := ho.to xa
      have hlie : LieOff EInst (offOf noT A1) (wb.alloc (.cells #[.int .i64 (j : Int), .slice C ci.length cc, .slice D si.length dc] 40)) [instCells ⟨j, ci, si⟩ ⟨C, cc, D, dc⟩] [⟨j, ci, si⟩] := by
        refine instLie (Hi.out.to (hx.tr xa)) (fun ad e hp => ?_) (fun ad e hp => ?_)
        · rintro (h | h)
          · exact h
          · obtain ⟨ad', e', hlt', -⟩ := Hi.out.cells.2 hp
            have := (ho.lt _ h).1
            rw [e] at e'; cases e'; omega
        · rintro (h | h)
          · exact h
          · obtain ⟨ad', e', hlt', -⟩ := Hi.out.symbols.2 hp
            have := (ho.lt _ h).1
            rw [e] at e'; cases e'; omega
      have hcel : ∀ i u, [instCells ⟨j, ci, si⟩ ⟨C, cc, D, dc⟩].flatten[i]? = some u → (wb.alloc (.cells #[.int .i64 (j : Int), .slice C ci.length cc, .slice D si.length dc] 40)).cell? ((⟨wb.heap.size, 0, none⟩ : Addr).add i) = some u := by
        intro i u hu
        have e : (⟨wb.heap.size, 0, none⟩ : Addr).add i = ⟨wb.heap.size, i, none⟩ := by unfold Addr.add; simp; intro h; exact h.symm
        rw [e, hB9.cell]
        simpa [instCells] using hu
      have hbs : w4.heap.size ≤ (wb.alloc (.cells #[.int .i64 (j : Int), .slice C ci.length cc, .slice D si.length dc] 40)).heap.size := (hx.tr xa).size
      have Hlie := hid hlie; have Hcel := hid hcel; have Hbs := hid hbs; clear hlie hcel hbs hB9
      go_wp2_with (at_builtin; refine app_g EInst w4.heap.size Hbs.out rfl _ _ rfl noT A1 G.length c1 G rfl ho9 ⟨wb.heap.size, 0, none⟩ 1 1 rfl [⟨j, ci, si⟩] [instCells ⟨j, ci, si⟩ ⟨C, cc, D, dc⟩] rfl Hlie.out Hcel.out (by show (_ + 1) * 56 ≤ _; omega) (by simp [maxLen]; omega) ?_; intro A4 c4 w10 hg4)
      have hx10 : Ext w4 w10 := OwnG.ext (hx.tr xa) ho9 hg4.grown
      have hown4 := hg4.own
      go_roundw
      case rel => exact ⟨k + 1, A4, c4, by omega, by go_num, by rw [He9.out, List.length_append]; rfl, by have h9 := hown4; rw [← He9.out] at h9; exact h9.as (by rw [He9.out, List.length_append]; rfl) rfl, hx10⟩
      case measure => simp [intOf]; omega
    · obtain rfl : k = r1.length := by omega
      have e9 : (r1.take r1.length).filter (lvlB l level) = s1 := by rw [List.take_length]; exact L2.out
      rw [e9] at ho
      have hq1 := ho.insts (by have h1 := HN.out; have h2 := List.length_filter_le (lvlB l level) r1; rw [L2.out] at h2; omega)
      have HQ := hid hq1.1; clear hq1
      rw [e9]
      clear e9
      go_wp2_with (go_at_call 18; refine (sameAll_ok _ Y A1 yc c1 s1 s1 (hY.to hx) HQ.out).mono ?_; rintro e w5 ⟨rfl, hb5⟩; rw [sameL_refl])
      go_ret
      exact ⟨rfl, x0.tr (y4.tr (hx.tr hb5))⟩
end Go.Proofs.Ytimkijmjbnmcbaa
