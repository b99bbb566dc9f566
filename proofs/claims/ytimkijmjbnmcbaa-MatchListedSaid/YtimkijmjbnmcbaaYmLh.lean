/- Contract: the law on what the list holds. -/
import Derived.Test.YtimkijmjbnmcbaaYmLg
import Derived.Test.YtimkijmjbnmcbaaYmLd
namespace Go.Proofs.Ytimkijmjbnmcbaa
open Go Go.RowKit
theorem sameI_eq {i j : Inst} : sameI i j = true ↔ i = j := by
  constructor
  · intro h
    unfold sameI at h
    simp only [Bool.and_eq_true, beq_iff_eq] at h
    obtain ⟨a, b, c⟩ := i
    obtain ⟨a', b', c'⟩ := j
    obtain ⟨h1, h2, h3⟩ := h
    dsimp only at h1 h2 h3
    subst h1 h2 h3
    rfl
  · rintro rfl; exact sameI_refl i
theorem list_any {q : Problem} {l : List Rule} {pos : List Int} {level : Int} (h : libB q l pos = true) (i : Inst) : ((listR q l pos level).1.any fun x => sameI x i) = remvB q l pos level i := by
  rw [Bool.eq_iff_iff, ← list_mem h, List.any_eq_true]
  constructor
  · rintro ⟨x, hx, e⟩; rw [sameI_eq] at e; subst e; exact hx
  · intro hi; exact ⟨i, hi, sameI_refl i⟩
theorem list_shape {q : Problem} {l : List Rule} {pos : List Int} {level : Int} (h : libB q l pos = true) {i : Inst} (hi : i ∈ (listR q l pos level).1) : 0 < i.cells.length ∧ 0 < i.symbols.length ∧ i.cells.length + i.symbols.length ≤ 1000 ∧ remvB q l pos level i = true := by
  have hr := (list_mem h i).1 hi
  have hf := hr
  unfold remvB at hf
  rw [Bool.and_eq_true] at hf
  obtain ⟨h1, h2, h3, -, -⟩ := fitsR_yes rfl hf.1
  have hk : i.rule.toNat < l.length := by omega
  rw [ruleN_eq hk] at h3
  have hv := valid_pre (lib_rule h hk)
  unfold instB at h3
  simp only [Bool.and_eq_true, Bool.not_eq_true', bne_eq_false_iff_eq] at h3
  obtain ⟨⟨e1, -⟩, e2, -⟩ := h3
  exact ⟨by omega, by omega, by omega, hr⟩
theorem list_next {q : Problem} {l : List Rule} {pos : List Int} {level : Int} {k : Nat} (hk : k + 1 < (listR q l pos level).1.length) : beforeB (listR q l pos level).1[k] (listR q l pos level).1[k + 1] = true :=
  List.pairwise_iff_getElem.1 (list_lex q l pos level) k (k + 1) (by omega) hk (by omega)
set_option maxRecDepth 100000 in
set_option maxHeartbeats 8000000 in
theorem lListed_ok (w : World) (q : Problem) (p : PPtr) (l : List Rule) (A : Option Addr) (a : Nat) (B : Option Addr) (bn bc : Nat) (P : Option Addr) (pn : Nat) (pos : List Int) (level : Int) (i : Inst) (z : IPtr) (hq : RProb w q p) (hl : RRules w A l) (hP : RInts w P pos) (hlev : I64 level) (hi : RInstP w i z) :
    Calls Try.prog 6 #[probV q p, libW l A a B bn bc, .slice P pos.length pn, .int .i64 level, instW i z] w fun e w' => e = .returned (.bool true) ∧ Ext w w' := by
  obtain ⟨pa, pac, pb, pbc, pc, pcc⟩ := p
  obtain ⟨t, ci, si⟩ := i
  obtain ⟨C, cn, D, dn⟩ := z
  obtain ⟨W0, hW0⟩ : ∃ W0, ((((w.alloc (probO q ⟨pa, pac, pb, pbc, pc, pcc⟩)).alloc (libO l A a B bn bc)).alloc (.cells #[.slice P pos.length pn] 22)).alloc (.cells #[.int .i64 level] 3)).alloc (instC t ci si C cn D dn) = W0 := ⟨_, rfl⟩
  have x0 : Ext w W0 := by rw [← hW0]; exact (((((Ext.rfl' w).al _).al _).al _).al _).al _
  have F : ∀ V, Ext W0 V → CapBox V w.heap.size q ⟨pa, pac, pb, pbc, pc, pcc⟩ l.length A a B bn bc P pos.length pn level ∧ (V.cell? ⟨w.heap.size + 1 + 1 + 1 + 1, 0, none⟩ = some (.int .i64 t) ∧ V.cell? ⟨w.heap.size + 1 + 1 + 1 + 1, 1, none⟩ = some (.slice C ci.length cn) ∧ V.cell? ⟨w.heap.size + 1 + 1 + 1 + 1, 2, none⟩ = some (.slice D si.length dn)) := fun V hV => by
    rw [← hW0] at hV
    have h4 := ((Ext.rfl' ((((w.alloc (probO q ⟨pa, pac, pb, pbc, pc, pcc⟩)).alloc (libO l A a B bn bc)).alloc (.cells #[.slice P pos.length pn] 22)).alloc (.cells #[.int .i64 level] 3))).al (instC t ci si C cn D dn)).tr hV
    have h3 := ((Ext.rfl' (((w.alloc (probO q ⟨pa, pac, pb, pbc, pc, pcc⟩)).alloc (libO l A a B bn bc)).alloc (.cells #[.slice P pos.length pn] 22))).al (.cells #[.int .i64 level] 3)).tr h4
    have h2 := ((Ext.rfl' ((w.alloc (probO q ⟨pa, pac, pb, pbc, pc, pcc⟩)).alloc (libO l A a B bn bc))).al (.cells #[.slice P pos.length pn] 22)).tr h3
    have h1 := ((Ext.rfl' (w.alloc (probO q ⟨pa, pac, pb, pbc, pc, pcc⟩))).al (libO l A a B bn bc)).tr h2
    exact ⟨⟨probBox h1 rfl, boxE h2 (by simp) 0 _ rfl, boxE h2 (by simp) 1 _ rfl, boxE h3 (by simp) 0 _ rfl, boxE h4 (by simp) 0 _ rfl⟩, boxE hV (by simp) 0 _ rfl, boxE hV (by simp) 1 _ rfl, boxE hV (by simp) 2 _ rfl⟩
  have HF := hid F; clear F
  have hsz : w.heap.size + 1 + 1 + 1 + 1 + 1 = W0.heap.size := by rw [← hW0]; simp
  have Hsz := hid hsz; clear hsz
  have l1 := hi.cells.len
  have l2 := hi.symbols.len
  have hll := hl.len
  dsimp only at l1 l2
  have sm := fun V hV => small33_ok V q ⟨pa, pac, pb, pbc, pc, pcc⟩ l A a B bn bc (hq.to (x0.tr hV)) (hl.to (x0.tr hV))
  have m2 := fun (h : SmallF q l) V hV => mList_ok V q ⟨pa, pac, pb, pbc, pc, pcc⟩ l A a B bn bc P pn pos level (hq.to (x0.tr hV)) (hl.to (x0.tr hV)) (hP.to (x0.tr hV)) hlev (listTo_bd h)
  have cl := fun V (hV : Ext W0 V) j y hj => lListed1_ok V q ⟨pa, pac, pb, pbc, pc, pcc⟩ l A a B bn bc P pn pos level j y w.heap.size (by have := hV.size; have := Hsz.out; omega) (HF.out V hV).1 (hq.to (x0.tr hV)) (hl.to (x0.tr hV)) (hP.to (x0.tr hV)) hj
  have hn := fun (h : SmallF q l) => listR_len (pos := pos) (level := level) h
  have la := fun h => list_any (q := q) (l := l) (pos := pos) (level := level) h ⟨t, ci, si⟩
  have ls := fun h (j : Inst) hj => list_shape (q := q) (l := l) (pos := pos) (level := level) h (i := j) hj
  have ln : ∀ L, (listR q l pos level).1 = L → ∀ k (hk : k + 1 < L.length), beforeB L[k] L[k + 1] = true := by rintro _ rfl k hk; exact list_next hk
  have lz : libB q l pos = true → (listR q l pos level).2 = 0 := fun h => by unfold listR; rw [h]; rfl
  have lr := fun h => listR_lib (q := q) (l := l) (pos := pos) (level := level) h
  unfold RetList at m2
  obtain ⟨s1, s2, hs⟩ : ∃ a b, listR q l pos level = (a, b) := ⟨_, _, rfl⟩
  have Ln := hid (ln s1 (by rw [hs]))
  rw [hs] at m2 hn la lr lz
  simp only [hs] at ls
  dsimp only at m2 hn la ls lz
  have Sm := hid sm; have M2 := hid m2; have Hlev := hid hlev; have Hn := hid hn; have La := hid la; have Ls := hid ls; have Lz := hid lz; have Lr := hid lr; have Cl := hid cl; clear sm m2 hs hlev hn la ls ln lr cl lz
  have hi0 := hi.to x0
  have Hi := hid hi0; clear hi hi0
  go_enter Try.func6, Try.ntmps6
  go_upto_region 1 with fail
  clear hW0
  obtain ⟨⟨⟨f0, f1, f2, f3, f4⟩, f5, f6, f7, f8⟩, e0, e1, e2⟩ := HF.out W0 (Ext.rfl' _)
  dsimp only at f2 f3 f4
  go_upto_region 3 with (go_at_call 9; refine (sane33_ok _).mono ?_; rintro e w1 ⟨rfl, hb1⟩)
  clear f0 f1 f2 f3 f4 f5 f6 f7 f8 e0 e1 e2
  obtain ⟨⟨⟨f0, f1, f2, f3, f4⟩, f5, f6, f7, f8⟩, e0, e1, e2⟩ := HF.out w1 hb1
  dsimp only at f2 f3 f4
  go_wp2_with fail
  refine (Sm.out _ hb1).mono ?_
  rintro e w2 ⟨bf, rfl, hf, hb2⟩
  have y2 := hb1.tr hb2
  have Hf := hid hf; clear hf
  clear f0 f1 f2 f3 f4 f5 f6 f7 f8 e0 e1 e2
  obtain ⟨⟨⟨f0, f1, f2, f3, f4⟩, f5, f6, f7, f8⟩, e0, e1, e2⟩ := HF.out w2 y2
  dsimp only at f2 f3 f4
  cases bf
  · go_wp2_with fail
    go_ret
    exact ⟨rfl, x0.tr y2⟩
  have hF := Hf.out rfl
  have hN := Hn.out hF
  have HS := hid hF; have HN := hid hN; clear hF hN
  by_cases hm : (40 : Int) < (ci.length : Int) + si.length
  · go_wp2_with fail
    go_ret
    exact ⟨rfl, x0.tr y2⟩
  go_wp2_with fail
  refine (M2.out HS.out _ y2).mono ?_
  rintro e w3 ⟨X, xc, rfl, hX, -, hb3⟩
  have y3 := y2.tr hb3
  clear f0 f1 f2 f3 f4 f5 f6 f7 f8 e0 e1 e2
  cases hlib : libB q l pos
  · have hne := libE_no hlib
    obtain ⟨rfl, rfl⟩ : s1 = [] ∧ s2 = libE q l pos := by have := Lr.out hlib; simpa using this
    clear hlib
    go_wp2_with fail
    go_ret
    exact ⟨rfl, x0.tr y3⟩
  have h20 : s2 = 0 := Lz.out hlib
  subst h20
  have La2 := hid (La.out hlib)
  have Ls2 := hid (Ls.out hlib)
  clear hlib La Ls Lr
  have hXl := hX.len
  go_wp2_with fail
  go_loopw [14, 15, 16, 49] (fun o _ _ i wr => ∃ k : Nat, k ≤ s1.length ∧ i = .int .i64 k ∧ o = .bool ((s1.take k).any fun x => sameI x ⟨t, ci, si⟩) ∧ Ext w3 wr) (fun _ _ _ i _ => s1.length - (intOf i).toNat)
  case atStart => exact ⟨0, Nat.zero_le _, rfl, by simp, Ext.rfl' _⟩
  case round =>
    obtain ⟨k, hk, rfl, rfl, hx⟩ := hrel
    by_cases hlt : k < s1.length
    · obtain ⟨wo, rfl⟩ : ∃ wo : World, wo = wr := ⟨_, rfl⟩
      obtain ⟨ad, ⟨kA, kAc, kB, kBc⟩, rfl, hab, hik, g0, g1, g2⟩ := hX.instAt k hlt
      have hmem := List.getElem_mem hlt
      obtain ⟨sh1, sh2, sh3, sh4⟩ := Ls2.out _ hmem
      have hFs : (s1.take (k + 1)).any (fun x => sameI x ⟨t, ci, si⟩) = ((s1.take k).any (fun x => sameI x ⟨t, ci, si⟩) || sameI s1[k] ⟨t, ci, si⟩) := any_take _ _ _ hlt
      obtain ⟨bk, hbk⟩ : ∃ b, (s1.take k).any (fun x => sameI x ⟨t, ci, si⟩) = b := ⟨_, rfl⟩
      rw [hbk] at hFs ⊢
      have hbf : ∀ m (hm : m + 1 = k), beforeB (s1[m]'(by omega)) s1[k] = true := by rintro m rfl; exact Ln.out m hlt
      obtain ⟨⟨rr, cr, sr⟩, hri⟩ : ∃ x, s1[k] = x := ⟨_, rfl⟩
      rw [hri] at hik g0 g1 g2 hFs sh1 sh2 sh3 sh4
      simp only [hri] at hbf
      dsimp only at g0 g1 g2 sh1 sh2 sh3
      have k0 := cellE hx g0 (by rw [block_of_add]; exact hab)
      have k1 := cellE hx g1 (by rw [block_of_add]; exact hab)
      have k2 := cellE hx g2 (by rw [block_of_add]; exact hab)
      have HFs := hid hFs; have Hik := hid hik; have Hbf := hid hbf; have Hsh := hid sh4
      clear g0 g1 g2 hFs hri hik hbf hbk hmem sh4
      go_upto_region 13 with fail
      clear k0 k1 k2
      obtain ⟨wb, hwb⟩ : ∃ wb, wo.alloc (.cells #[.int .i64 rr, .slice kA cr.length kAc, .slice kB sr.length kBc] 40) = wb := ⟨_, rfl⟩
      have xb : Ext wo wb := by rw [← hwb]; exact (Ext.rfl' _).al _
      have hib : ∀ V, Ext wb V → V.cell? ⟨wo.heap.size, 0, none⟩ = some (.int .i64 rr) ∧ V.cell? ⟨wo.heap.size, 1, none⟩ = some (.slice kA cr.length kAc) ∧ V.cell? ⟨wo.heap.size, 2, none⟩ = some (.slice kB sr.length kBc) := fun V hV =>
        ⟨boxE (by rw [hwb]; exact hV) rfl 0 _ rfl, boxE (by rw [hwb]; exact hV) rfl 1 _ rfl, boxE (by rw [hwb]; exact hV) rfl 2 _ rfl⟩
      have Hib := hid hib; clear hib
      rw [hwb]
      clear hwb
      have yb := y3.tr (hx.tr xb)
      have ck := fun V (hV : Ext wb V) => Cl.out V (yb.tr hV) ⟨rr, cr, sr⟩ ⟨kA, kAc, kB, kBc⟩ (Hik.out.to ((hx.tr xb).tr hV))
      rw [Hsh.out] at ck
      have Ck := hid ck; clear ck
      have rest : ∀ W, Ext wb W → True := fun _ _ => trivial
      by_cases hk0 : k = 0
      · subst hk0
        refine wp_region_sf (fun | 15 => some (SF.val (.bool true)) | _ => none) (by kernel_rfl) (by kernel_rfl) ?_
        repeat (first | (refine wpE_skipK ?_ ?_; (focus ((first | refine wanted_notF rfl rfl ?_ | refine wanted_notT rfl rfl ?_); (focus (simp only [List.getElem?_toArray, List.getElem?_cons_succ, List.getElem?_cons_zero]; done)))); intro K hK; go_simp; apply hK; clear hK K; (have hq9 : True := trivial); clear hq9) | (refine wpE_detN rfl rfl (fun K hK => ?_); apply Exists.intro; apply And.intro; (focus (rintro W ⟨hx, -⟩; obtain ⟨q0, q1, q2⟩ := Hib.out W hx; go_simp; all_goals rfl)); go_simp; apply hK; clear hK K; (have hq9 : True := trivial); clear hq9) | (refine wpE_detK rfl ?_ ?_; (focus (refine wanted_so rfl rfl ?_; (focus (simp only [List.getElem?_toArray, List.getElem?_cons_succ, List.getElem?_cons_zero]; done)))); intro K hK; apply Exists.intro; apply And.intro; (focus (rintro W ⟨hx, -⟩; obtain ⟨q0, q1, q2⟩ := Hib.out W hx; go_simp; all_goals rfl)); go_simp; apply hK; clear hK K; (have hq9 : True := trivial); clear hq9))
        (first | refine wpE_newN _ rfl rfl ?_ ?_ | (refine wpE_newK _ rfl ?_ ?_ ?_; (focus (refine wanted_so rfl rfl ?_; (focus (simp only [List.getElem?_toArray, List.getElem?_cons_succ, List.getElem?_cons_zero]; done)))))); (focus (rintro W ⟨hW, -⟩; go_simp; exact ⟨Ext.rfl' _, (Ck.out W hW).mono fun e W' ⟨he, hb⟩ => ⟨_, he, hb, rfl⟩⟩)); (rintro _ ⟨_, rfl⟩ K hK); (go_simp; apply hK; clear hK K; (have hq9 : True := trivial); clear hq9)
        repeat (first | (refine wpE_skipK ?_ ?_; (focus ((first | refine wanted_notF rfl rfl ?_ | refine wanted_notT rfl rfl ?_); (focus (simp only [List.getElem?_toArray, List.getElem?_cons_succ, List.getElem?_cons_zero]; done)))); intro K hK; go_simp; apply hK; clear hK K; (have hq9 : True := trivial); clear hq9) | (refine wpE_detN rfl rfl (fun K hK => ?_); apply Exists.intro; apply And.intro; (focus (rintro W ⟨hx, -⟩; obtain ⟨q0, q1, q2⟩ := Hib.out W hx; go_simp; all_goals rfl)); go_simp; apply hK; clear hK K; (have hq9 : True := trivial); clear hq9) | (refine wpE_detK rfl ?_ ?_; (focus (refine wanted_so rfl rfl ?_; (focus (simp only [List.getElem?_toArray, List.getElem?_cons_succ, List.getElem?_cons_zero]; done)))); intro K hK; apply Exists.intro; apply And.intro; (focus (rintro W ⟨hx, -⟩; obtain ⟨q0, q1, q2⟩ := Hib.out W hx; go_simp; all_goals rfl)); go_simp; apply hK; clear hK K; (have hq9 : True := trivial); clear hq9))
        apply wpE_nil
        rintro W ⟨hW, hG⟩
        clear hG
        obtain ⟨q0, q1, q2⟩ := Hib.out W hW
        obtain ⟨-, e0, e1, e2⟩ := HF.out W (yb.tr hW)
        have si9 := sameInst_ok W ⟨rr, cr, sr⟩ ⟨t, ci, si⟩ ⟨kA, kAc, kB, kBc⟩ ⟨C, cn, D, dn⟩ (Hik.out.to ((hx.tr xb).tr hW)) (Hi.out.to (yb.tr hW))
        have Si9 := hid si9; clear si9
        cases bk
        · go_wp2_with (go_at_call 21; refine Si9.out.mono ?_; rintro e w9 ⟨rfl, hb9⟩)
          go_roundw
          case rel => first | exact ⟨0 + 1, by omega, by go_num, by rw [HFs.out]; rfl, hx.tr (xb.tr (hW.tr hb9))⟩ | exact ⟨m + 1 + 1, by omega, by go_num, by rw [HFs.out]; rfl, hx.tr (xb.tr (hW.tr hb9))⟩
          case measure => simp [intOf]; omega
        · go_wp2_with fail
          go_roundw
          case rel => first | exact ⟨0 + 1, by omega, by go_num, by rw [HFs.out]; rfl, hx.tr (xb.tr hW)⟩ | exact ⟨m + 1 + 1, by omega, by go_num, by rw [HFs.out]; rfl, hx.tr (xb.tr hW)⟩
          case measure => simp [intOf]; omega
      · obtain ⟨m, rfl⟩ : ∃ m, k = m + 1 := ⟨k - 1, by omega⟩
        obtain ⟨_, ⟨mA, mAc, mB, mBc⟩, e9, -, hmk, g0, g1, g2⟩ := hX.instAt m (by omega)
        cases e9
        have hmem := List.getElem_mem (l := s1) (n := m) (by omega)
        obtain ⟨th1, th2, th3, -⟩ := Ls2.out _ hmem
        have hbf := Hbf.out m rfl
        clear Hbf
        obtain ⟨⟨rm, cm, sm⟩, hri⟩ : ∃ x, s1[m] = x := ⟨_, rfl⟩
        rw [hri] at hmk g0 g1 g2 th1 th2 th3 hbf
        dsimp only at g0 g1 g2 th1 th2 th3
        have bk9 := fun V (hV : Ext wb V) => before33_ok V ⟨rm, cm, sm⟩ ⟨rr, cr, sr⟩ ⟨mA, mAc, mB, mBc⟩ ⟨kA, kAc, kB, kBc⟩ (hmk.to ((hx.tr xb).tr hV)) (Hik.out.to ((hx.tr xb).tr hV)) th1 th2 sh1 sh2 th3 sh3
        rw [hbf] at bk9
        have Bk := hid bk9; clear bk9 hbf
        have hib : ∀ V, Ext wb V → (V.cell? ⟨wo.heap.size, 0, none⟩ = some (.int .i64 rr) ∧ V.cell? ⟨wo.heap.size, 1, none⟩ = some (.slice kA cr.length kAc) ∧ V.cell? ⟨wo.heap.size, 2, none⟩ = some (.slice kB sr.length kBc)) ∧
            V.cell? (ad.add (m * 3)) = some (.int .i64 rm) ∧ V.cell? ⟨(ad.add (m * 3)).block, (ad.add (m * 3)).off + 1, none⟩ = some (.slice mA cm.length mAc) ∧ V.cell? ⟨(ad.add (m * 3)).block, (ad.add (m * 3)).off + 2, none⟩ = some (.slice mB sm.length mBc) := fun V hV =>
          ⟨Hib.out V hV, cellE ((hx.tr xb).tr hV) g0 (by rw [block_of_add]; exact hab), cellE ((hx.tr xb).tr hV) g1 (by rw [block_of_add]; exact hab), cellE ((hx.tr xb).tr hV) g2 (by rw [block_of_add]; exact hab)⟩
        have Hib2 := hid hib; clear hib g0 g1 g2 hri hmk hmem
        have hpos : (0 : Int) < ((m + 1 : Nat) : Int) := by omega
        have hm1 : m < s1.length := by omega
        have hm2 : (m : Int) < (s1.length : Int) := by omega
        have hm3 : IntKind.i64.wrap (m : Int) = m := IntWalk.i64_in _ ⟨by omega, by omega⟩
        refine wp_region_sf (fun | 9 => some (SF.val (.bool true)) | 15 => some (SF.val (.bool true)) | _ => none) (by kernel_rfl) (by kernel_rfl) ?_
        repeat (first | (refine wpE_skipK ?_ ?_; (focus ((first | refine wanted_notF rfl rfl ?_ | refine wanted_notT rfl rfl ?_); (focus (simp only [List.getElem?_toArray, List.getElem?_cons_succ, List.getElem?_cons_zero]; done)))); intro K hK; go_simp; apply hK; clear hK K; (have hq9 : True := trivial); clear hq9) | (refine wpE_detN rfl rfl (fun K hK => ?_); apply Exists.intro; apply And.intro; (focus (rintro W ⟨hx, -⟩; obtain ⟨⟨q0, q1, q2⟩, q3, q4, q5⟩ := Hib2.out W hx; go_simp; all_goals rfl)); go_simp; apply hK; clear hK K; (have hq9 : True := trivial); clear hq9) | (refine wpE_detK rfl ?_ ?_; (focus (refine wanted_so rfl rfl ?_; (focus (simp only [List.getElem?_toArray, List.getElem?_cons_succ, List.getElem?_cons_zero]; done)))); intro K hK; apply Exists.intro; apply And.intro; (focus (rintro W ⟨hx, -⟩; obtain ⟨⟨q0, q1, q2⟩, q3, q4, q5⟩ := Hib2.out W hx; go_simp; all_goals rfl)); go_simp; apply hK; clear hK K; (have hq9 : True := trivial); clear hq9))
        (first | refine wpE_newN _ rfl rfl ?_ ?_ | (refine wpE_newK _ rfl ?_ ?_ ?_; (focus (refine wanted_so rfl rfl ?_; (focus (simp only [List.getElem?_toArray, List.getElem?_cons_succ, List.getElem?_cons_zero]; done)))))); (focus (rintro W ⟨hW, -⟩; go_simp; exact ⟨Ext.rfl' _, (Bk.out W hW).mono fun e W' ⟨he, hb⟩ => ⟨_, he, hb, rfl⟩⟩)); (rintro _ ⟨_, rfl⟩ K hK); (go_simp; apply hK; clear hK K; (have hq9 : True := trivial); clear hq9)
        repeat (first | (refine wpE_skipK ?_ ?_; (focus ((first | refine wanted_notF rfl rfl ?_ | refine wanted_notT rfl rfl ?_); (focus (simp only [List.getElem?_toArray, List.getElem?_cons_succ, List.getElem?_cons_zero]; done)))); intro K hK; go_simp; apply hK; clear hK K; (have hq9 : True := trivial); clear hq9) | (refine wpE_detN rfl rfl (fun K hK => ?_); apply Exists.intro; apply And.intro; (focus (rintro W ⟨hx, -⟩; obtain ⟨⟨q0, q1, q2⟩, q3, q4, q5⟩ := Hib2.out W hx; go_simp; all_goals rfl)); go_simp; apply hK; clear hK K; (have hq9 : True := trivial); clear hq9) | (refine wpE_detK rfl ?_ ?_; (focus (refine wanted_so rfl rfl ?_; (focus (simp only [List.getElem?_toArray, List.getElem?_cons_succ, List.getElem?_cons_zero]; done)))); intro K hK; apply Exists.intro; apply And.intro; (focus (rintro W ⟨hx, -⟩; obtain ⟨⟨q0, q1, q2⟩, q3, q4, q5⟩ := Hib2.out W hx; go_simp; all_goals rfl)); go_simp; apply hK; clear hK K; (have hq9 : True := trivial); clear hq9))
        (first | refine wpE_newN _ rfl rfl ?_ ?_ | (refine wpE_newK _ rfl ?_ ?_ ?_; (focus (refine wanted_so rfl rfl ?_; (focus (simp only [List.getElem?_toArray, List.getElem?_cons_succ, List.getElem?_cons_zero]; done)))))); (focus (rintro W ⟨hW, -⟩; go_simp; exact ⟨Ext.rfl' _, (Ck.out W hW).mono fun e W' ⟨he, hb⟩ => ⟨_, he, hb, rfl⟩⟩)); (rintro _ ⟨_, rfl⟩ K hK); (go_simp; apply hK; clear hK K; (have hq9 : True := trivial); clear hq9)
        repeat (first | (refine wpE_skipK ?_ ?_; (focus ((first | refine wanted_notF rfl rfl ?_ | refine wanted_notT rfl rfl ?_); (focus (simp only [List.getElem?_toArray, List.getElem?_cons_succ, List.getElem?_cons_zero]; done)))); intro K hK; go_simp; apply hK; clear hK K; (have hq9 : True := trivial); clear hq9) | (refine wpE_detN rfl rfl (fun K hK => ?_); apply Exists.intro; apply And.intro; (focus (rintro W ⟨hx, -⟩; obtain ⟨⟨q0, q1, q2⟩, q3, q4, q5⟩ := Hib2.out W hx; go_simp; all_goals rfl)); go_simp; apply hK; clear hK K; (have hq9 : True := trivial); clear hq9) | (refine wpE_detK rfl ?_ ?_; (focus (refine wanted_so rfl rfl ?_; (focus (simp only [List.getElem?_toArray, List.getElem?_cons_succ, List.getElem?_cons_zero]; done)))); intro K hK; apply Exists.intro; apply And.intro; (focus (rintro W ⟨hx, -⟩; obtain ⟨⟨q0, q1, q2⟩, q3, q4, q5⟩ := Hib2.out W hx; go_simp; all_goals rfl)); go_simp; apply hK; clear hK K; (have hq9 : True := trivial); clear hq9))
        apply wpE_nil
        rintro W ⟨hW, hG⟩
        clear hG
        obtain ⟨q0, q1, q2⟩ := Hib.out W hW
        obtain ⟨-, e0, e1, e2⟩ := HF.out W (yb.tr hW)
        have si9 := sameInst_ok W ⟨rr, cr, sr⟩ ⟨t, ci, si⟩ ⟨kA, kAc, kB, kBc⟩ ⟨C, cn, D, dn⟩ (Hik.out.to ((hx.tr xb).tr hW)) (Hi.out.to (yb.tr hW))
        have Si9 := hid si9; clear si9
        cases bk
        · go_wp2_with (go_at_call 21; refine Si9.out.mono ?_; rintro e w9 ⟨rfl, hb9⟩)
          go_roundw
          case rel => first | exact ⟨0 + 1, by omega, by go_num, by rw [HFs.out]; rfl, hx.tr (xb.tr (hW.tr hb9))⟩ | exact ⟨m + 1 + 1, by omega, by go_num, by rw [HFs.out]; rfl, hx.tr (xb.tr (hW.tr hb9))⟩
          case measure => simp [intOf]; omega
        · go_wp2_with fail
          go_roundw
          case rel => first | exact ⟨0 + 1, by omega, by go_num, by rw [HFs.out]; rfl, hx.tr (xb.tr hW)⟩ | exact ⟨m + 1 + 1, by omega, by go_num, by rw [HFs.out]; rfl, hx.tr (xb.tr hW)⟩
          case measure => simp [intOf]; omega
    · obtain rfl : k = s1.length := by omega
      have yw := y3.tr hx
      obtain ⟨-, e0, e1, e2⟩ := HF.out wr yw
      have c9 := Cl.out wr yw ⟨t, ci, si⟩ ⟨C, cn, D, dn⟩ (Hi.out.to yw)
      have C9 := hid c9; clear c9
      rw [List.take_length]
      have hab : (s1.any (fun x => sameI x ⟨t, ci, si⟩) == remvB q l pos level ⟨t, ci, si⟩) = true := by rw [La2.out]; simp
      go_wp2_with fail
      refine C9.out.mono ?_
      rintro e w9 ⟨rfl, hb9⟩
      go_wp2_with fail
      go_ret
      exact ⟨rfl, x0.tr (yw.tr hb9)⟩
end Go.Proofs.Ytimkijmjbnmcbaa
