/- Contracts: premises (the program's text). Contract: Fitting (the reference). Contract: Fits (the reference). Contracts: the functions that List makes. Contract: match.Fits. Contracts: the chapter's library; instances are compared. Contracts: whether a lemma is small. Contracts: whether a problem and a library are small. -/
import Derived.Test.YtimkijmjbnmcbaaGreatYm16
import Derived.Test.YtimkijmjbnmcbaaGreatYm18
namespace Go.Proofs.YtimkijmjbnmcbaaGreat
open Go Go.RowKit
/-- A premise is fulfilled. -/
def premB1 (pos cells symbols : List Int) (x : Premise) : Bool := andI (num pos (num cells x.cell.toNat).toNat) (setOf (chosen symbols x.letters)) == num pos (num cells x.cell.toNat).toNat
/-- What is left when symbols are struck. -/
def struck (s : Int) (l : List Int) : Int := l.foldl (fun s x => bits .andNot .i64 s (2 ^ x.toNat)) s
def orBV (l : List Int) (v : BitVec 64) : BitVec 64 := l.foldl (fun s x => s ||| bv (2 ^ x.toNat)) v
theorem bv_fold_or (l : List Int) (v : BitVec 64) : bv (l.foldl (fun s x => bits .or .i64 s (2 ^ x.toNat)) v.toInt) = orBV l v := by
  induction l generalizing v with
  | nil => exact bv_toInt v
  | cons x l ih =>
    simp only [List.foldl_cons, orBV]
    rw [bits_or, bv_toInt]
    exact ih _
theorem orBV_v (l : List Int) (v : BitVec 64) : orBV l v = v ||| orBV l 0#64 := by
  induction l generalizing v with
  | nil => simp [orBV]
  | cons x l ih =>
    have h1 := ih (v ||| bv (2 ^ x.toNat))
    have h2 := ih (0#64 ||| bv (2 ^ x.toNat))
    simp only [orBV, List.foldl_cons] at h1 h2 ⊢
    rw [h1, h2, BitVec.or_assoc]
    simp
theorem bv_struck (l : List Int) (s : Int) : bv (struck s l) = bv s &&& ~~~ orBV l 0#64 := by
  induction l generalizing s with
  | nil =>
    have h0 : ~~~ (0#64) = BitVec.allOnes 64 := by decide
    show bv s = bv s &&& ~~~ 0#64
    rw [h0, BitVec.and_allOnes]
  | cons x l ih =>
    have h1 := ih (bits .andNot .i64 s (2 ^ x.toNat))
    have h2 := orBV_v l (0#64 ||| bv (2 ^ x.toNat))
    simp only [struck, orBV, List.foldl_cons] at h1 h2 ⊢
    rw [h1, h2, bits_andNot, bv_toInt, BitVec.and_assoc]
    congr 1
    simp [BitVec.not_or]
theorem i64_bits (op : BinOp) (x y : Int) (h : op = .andNot ∨ op = .or) : I64 (bits op .i64 x y) := by
  rcases h with rfl | rfl
  · rw [bits_andNot]; exact i64_toInt _
  · rw [bits_or]; exact i64_toInt _
theorem struck_i64 (l : List Int) {s : Int} (h : I64 s) : I64 (struck s l) := by
  induction l generalizing s with
  | nil => exact h
  | cons x l ih => exact ih (i64_bits _ _ _ (.inl rfl))
theorem struck_set {l : List Int} {s : Int} (h : I64 s) : struck s l = andNotI s (setOf l) := by
  refine bv_inj (struck_i64 l h) (i64_bits _ _ _ (.inl rfl)) ?_
  unfold andNotI
  rw [bv_struck, bits_andNot, bv_toInt]
  have := bv_fold_or l 0#64
  rw [show ((0#64 : BitVec 64).toInt) = 0 from rfl] at this
  unfold setOf
  rw [this]
theorem premB1_eq {pos cells symbols : List Int} {x : Premise} (h : I64 (num pos (num cells x.cell.toNat).toNat)) : premB1 pos cells symbols x = (struck (num pos (num cells x.cell.toNat).toNat) (chosen symbols x.letters) == 0) := by
  unfold premB1
  rw [struck_set h, Bool.eq_iff_iff, beq_iff_eq, beq_iff_eq]
  exact and_all h
theorem struck_take {s : Int} {l symbols : List Int} {k : Nat} (h : k < l.length) : struck s (chosen symbols (l.take (k + 1))) = bits .andNot .i64 (struck s (chosen symbols (l.take k))) (2 ^ (num symbols l[k].toNat).toNat) := by
  unfold struck chosen
  rw [List.take_succ_eq_append_getElem h, List.map_append, List.foldl_append]; rfl
set_option maxHeartbeats 2000000 in
set_option maxRecDepth 100000 in
theorem mPrem_ok (w : World) (q : Problem) (pos : List Int) (g : Nat) (m : MPtr) (h : RMat w q pos g m) (x : Rule) (p : RPtr) (hx : RulePs w x p) (C : Option Addr) (cn : Nat) (D : Option Addr) (dn : Nat) (cells symbols : List Int) (hC : RInts w C cells) (hD : RInts w D symbols)
    (hpc : ∀ y ∈ x.premises, (0 ≤ y.cell ∧ y.cell < cells.length) ∧ Idx y.letters symbols.length) (hcells : Idx cells pos.length) (hsym : Idx symbols 16) :
    Calls Tryz.prog 27 #[.pointer (some ⟨g, 0, none⟩), ruleV x p, .slice C cells.length cn, .slice D symbols.length dn] w fun e w' => e = .returned (.bool (x.premises.all (premB1 pos cells symbols))) ∧ Ext w w' := by
  have x0 := (Ext.rfl' w).al (ruleO x p)
  obtain ⟨pa, pac, pb, pbc, pc, pcc, pd, pdc⟩ := p
  obtain ⟨-, f1, f2, f3, f4, f5, f6, f7⟩ := ruleBox (w := w) (x := x) (p := ⟨pa, pac, pb, pbc, pc, pcc, pd, pdc⟩) (Ext.rfl' _) rfl
  dsimp only at f2 f3 f4 f5
  have hpl := hx.premises.len
  have Hpc := hid hpc; have Hcells := hid hcells; have Hsym := hid hsym; clear hpc hcells hsym
  go_enter Tryz.func27, Tryz.ntmps27
  go_wp2_with fail
  go_loopw [10, 11, 13, 17] (fun _ _ _ i wr => ∃ k : Nat, k ≤ x.premises.length ∧ i = .int .i64 k ∧ Hid ((x.premises.take k).all (premB1 pos cells symbols) = true) ∧ Ext (w.alloc (ruleO x ⟨pa, pac, pb, pbc, pc, pcc, pd, pdc⟩)) wr) (fun _ _ _ i _ => x.premises.length - (intOf i).toNat)
  case atStart => exact ⟨0, Nat.zero_le _, rfl, rfl, Ext.rfl' _⟩
  case round =>
    clear f1 f2 f3 f4 f5 f6 f7
    obtain ⟨k, hk, rfl, hno, hxr⟩ := hrel
    obtain ⟨wo, rfl⟩ : ∃ wo : World, wo = wr := ⟨_, rfl⟩
    by_cases hlt : k < x.premises.length
    · obtain ⟨ad, B1, b1, hA, hab, r1, r2, g0, g1⟩ := (hx.premises.to (x0.tr hxr)).premAt k hlt
      dsimp only at hA
      subst hA
      obtain ⟨⟨i1, i2⟩, i3⟩ := Hpc.out _ (List.getElem_mem hlt)
      have Hi3 := hid i3; clear i3
      have hcm : num cells x.premises[k].cell.toNat ∈ cells := num_mem (by omega)
      obtain ⟨j1, j2⟩ := Hcells.out _ hcm
      clear hcm
      obtain ⟨wi, hwi⟩ : ∃ wi, wo.alloc (premO x.premises[k] B1 b1) = wi := ⟨_, rfl⟩
      have xi : Ext wo wi := by rw [← hwi]; exact (Ext.rfl' _).al _
      have bi : Blk wi wo.heap.size 53 #[.int .i64 x.premises[k].cell, .slice B1 x.premises[k].letters.length b1] := by rw [← hwi]; exact Blk.new _ _ _
      obtain ⟨cd, hCd, hcb, hcc, _⟩ := (hC.to (x0.tr (hxr.tr xi))).num (by omega)
      obtain ⟨bd, hP, hpb, hpc2, hpi⟩ := (h.pos.to (x0.tr (hxr.tr xi))).num (by omega)
      have hc1 := hcc x.premises[k].cell.toNat (by omega)
      have hp1 := hpc2 (num cells x.premises[k].cell.toNat).toNat (by omega)
      have hi64 := hpi (num cells x.premises[k].cell.toNat).toNat (by omega)
      have hpe := premB1_eq (symbols := symbols) hi64
      have Hpe := hid hpe; clear hpe hcc hpc2 hpi hi64
      have hm5 := (h.to (x0.tr (hxr.tr xi))).c5
      subst hCd
      have F : ∀ V, Ext wi V → V.cell? ⟨g, 5, none⟩ = some (.slice m.P pos.length m.pn) ∧ V.cell? ⟨wo.heap.size, 0, none⟩ = some (.int .i64 x.premises[k].cell) ∧ V.cell? (cd.add x.premises[k].cell.toNat) = some (.int .i64 (num cells x.premises[k].cell.toNat)) ∧ V.cell? (bd.add (num cells x.premises[k].cell.toNat).toNat) = some (.int .i64 (num pos (num cells x.premises[k].cell.toNat).toNat)) := fun V hV =>
        ⟨(h.to (x0.tr (hxr.tr (xi.tr hV)))).c5, (bi.ext hV).cell 0, cellE hV hc1 (by rw [block_of_add]; exact hcb), cellE hV hp1 (by rw [block_of_add]; exact hpb)⟩
      rw [hP] at F
      have HF := hid F; clear F hc1 hp1 hm5 hP
      go_upto_region 4 with fail
      go_wp2_with fail
      clear hwi
      (refine wp_region_sf (fun _ => none) (by kernel_rfl) (by kernel_rfl) ?_); (repeat (first | (refine wpE_skipK ?_ ?_; (focus ((first | refine wanted_notF rfl rfl ?_ | refine wanted_notT rfl rfl ?_); (focus (simp only [List.getElem?_toArray, List.getElem?_cons_succ, List.getElem?_cons_zero]; done)))); intro K hK; go_simp; apply hK; clear hK K; (have hq9 : True := trivial); clear hq9) | (refine wpE_detN rfl rfl (fun K hK => ?_); apply Exists.intro; apply And.intro; (focus (rintro W ⟨hx, -⟩; obtain ⟨e0, e1, e2, e3⟩ := HF.out W hx; go_simp; all_goals rfl)); go_simp; apply hK; clear hK K; (have hq9 : True := trivial); clear hq9) | (refine wpE_detK rfl ?_ ?_; (focus (refine wanted_so rfl rfl ?_; (focus (simp only [List.getElem?_toArray, List.getElem?_cons_succ, List.getElem?_cons_zero]; done)))); intro K hK; apply Exists.intro; apply And.intro; (focus (rintro W ⟨hx, -⟩; obtain ⟨e0, e1, e2, e3⟩ := HF.out W hx; go_simp; all_goals rfl)); go_simp; apply hK; clear hK K; (have hq9 : True := trivial); clear hq9))); (apply wpE_nil); (rintro W ⟨hW, hG⟩); clear hG
      have q1 := (bi.ext hW).cell 1
      simp only [List.getElem?_toArray, List.getElem?_cons_succ, List.getElem?_cons_zero] at q1
      have r1W := r1.to (xi.tr hW)
      have rDW := hD.to (x0.tr (hxr.tr (xi.tr hW)))
      have hll := r1.len
      generalize hs0 : num pos (num cells x.premises[k].cell.toNat).toNat = s0 at *
      clear hs0
      go_wp2_with fail
      go_loop [11, 13, 35] (fun s _ i => ∃ j : Nat, j ≤ x.premises[k].letters.length ∧ i = .int .i64 j ∧ s = .int .i64 (struck s0 (chosen symbols (x.premises[k].letters.take j)))) (fun _ _ i => x.premises[k].letters.length - (intOf i).toNat)
      case atStart => exact ⟨0, Nat.zero_le _, rfl, rfl⟩
      case round =>
        obtain ⟨j, hj, rfl, rfl⟩ := hrel
        by_cases hlt2 : j < x.premises[k].letters.length
        · obtain ⟨ld, hld, _, hlc, _⟩ := r1W.at_ j hlt2
          subst hld
          obtain ⟨l1, l2⟩ := Hi3.out _ (List.getElem_mem hlt2)
          obtain ⟨dd, hdd, _, hdc, _⟩ := rDW.num (by omega)
          subst hdd
          have hd1 := hdc x.premises[k].letters[j].toNat (by omega)
          clear hdc
          have hsm : num symbols x.premises[k].letters[j].toNat ∈ symbols := num_mem (by omega)
          obtain ⟨n1, n2⟩ := Hsym.out _ hsm
          clear hsm
          have hpw := pow_bd (num symbols x.premises[k].letters[j].toNat) n1 (by omega)
          have Hst := hid (struck_take (s := s0) (symbols := symbols) hlt2)
          go_wp2_with fail
          go_round
          case rel => exact ⟨j + 1, by omega, by go_num, by rw [Hst.out]⟩
          case measure => simp [intOf]; omega
        · have hall : x.premises[k].letters.take j = x.premises[k].letters := List.take_of_length_le (by omega)
          rw [hall]
          cases hz : (struck s0 (chosen symbols x.premises[k].letters) == 0)
          · have hz' : (struck s0 (chosen symbols x.premises[k].letters) != 0) = true := by rw [bne, hz]; rfl
            rw [hz] at Hpe
            go_wp2_with fail
            go_ret
            exact ⟨ret_bool (all_of_at k hlt Hpe.out).symm, x0.tr (hxr.tr (xi.tr hW))⟩
          · have hz' : (struck s0 (chosen symbols x.premises[k].letters) != 0) = false := by rw [bne, hz]; rfl
            rw [hz] at Hpe
            go_wp2_with fail
            go_roundw
            case rel => exact ⟨k + 1, by omega, by go_num, all_on hlt hno Hpe.out, hxr.tr (xi.tr hW)⟩
            case measure => simp [intOf]; omega
    · go_wp2_with fail
      go_ret
      exact ⟨ret_bool (all_end hno hlt).symm, x0.tr hxr⟩
end Go.Proofs.YtimkijmjbnmcbaaGreat
namespace Go.Proofs.YtimkijmjbnmcbaaGreat
open Go Go.RowKit
/-- An instance fits. -/
def fitB (q : Problem) (pos : List Int) (x : Rule) (i : Inst) : Bool := !deadB pos && diffB i.cells q.cells && diffB i.symbols q.symbols && x.conds.all (fun c => metB q pos c i.cells i.symbols) && x.premises.all (premB1 pos i.cells i.symbols)
abbrev instW (i : Inst) (p : IPtr) : Value := .agg #[.int .i64 i.rule, .slice p.a i.cells.length p.ac, .slice p.b i.symbols.length p.bc]
abbrev instO (i : Inst) (p : IPtr) : Obj := .cells #[.int .i64 i.rule, .slice p.a i.cells.length p.ac, .slice p.b i.symbols.length p.bc] 32
/-- What Fitting's boxes hold. -/
def FitBox (W : World) (g : Nat) (q : Problem) (p : PPtr) (x : Rule) (r : RPtr) (i : Inst) (z : IPtr) : Prop :=
  (W.cell? ⟨g, 0, none⟩ = some (.int .i64 q.cells) ∧ W.cell? ⟨g, 1, none⟩ = some (.int .i64 q.symbols) ∧ W.cell? ⟨g, 2, none⟩ = some (.slice p.a q.values.length p.ac) ∧ W.cell? ⟨g, 3, none⟩ = some (.slice p.b q.neighbors.length p.bc) ∧ W.cell? ⟨g, 4, none⟩ = some (.slice p.c q.cons.length p.cc)) ∧
  (W.cell? ⟨g + 1, 4, none⟩ = some (.slice r.c x.conds.length r.cc) ∧ W.cell? ⟨g + 1, 5, none⟩ = some (.slice r.d x.premises.length r.dc)) ∧
  W.cell? ⟨g + 1 + 1, 1, none⟩ = some (.slice z.a i.cells.length z.ac) ∧ W.cell? ⟨g + 1 + 1, 2, none⟩ = some (.slice z.b i.symbols.length z.bc)
theorem fitBox {w W : World} {q : Problem} {p : PPtr} {x : Rule} {r : RPtr} {i : Inst} {z : IPtr} (h : Ext (((w.alloc (probO q p)).alloc (ruleO x r)).alloc (instO i z)) W) : FitBox W w.heap.size q p x r i z := by
  have h2 := ((Ext.rfl' ((w.alloc (probO q p)).alloc (ruleO x r))).al (instO i z)).tr h
  have h1 := ((Ext.rfl' (w.alloc (probO q p))).al (ruleO x r)).tr h2
  have e1 := World.size_alloc w (probO q p)
  have e2 := World.size_alloc (w.alloc (probO q p)) (ruleO x r)
  rw [e1] at e2
  exact ⟨⟨boxE h1 rfl 0 _ rfl, boxE h1 rfl 1 _ rfl, boxE h1 rfl 2 _ rfl, boxE h1 rfl 3 _ rfl, boxE h1 rfl 4 _ rfl⟩, ⟨boxE h2 e1 4 _ rfl, boxE h2 e1 5 _ rfl⟩, boxE h e2 1 _ rfl, boxE h e2 2 _ rfl⟩
theorem valid_cond {x : Rule} (hv : validR x = true) {c : Cond} (hc : c ∈ x.conds) : condB c x.cells.length x.letters.length = true := by
  unfold validR at hv
  simp only [Bool.and_eq_true] at hv
  exact List.all_eq_true.1 hv.1.1.2 c hc
theorem valid_prem {x : Rule} (hv : validR x = true) {y : Premise} (hy : y ∈ x.premises) : (0 ≤ y.cell ∧ y.cell < (x.cells.length : Int)) ∧ Idx y.letters x.letters.length := by
  unfold validR at hv
  simp only [Bool.and_eq_true] at hv
  have h1 := List.all_eq_true.1 hv.1.2 y hy
  unfold premB indicesB at h1
  rw [Bool.and_eq_true] at h1
  exact ⟨diff_iff hv.2 y.cell (List.mem_map.2 ⟨y, hy, rfl⟩), diff_iff h1.1⟩
end Go.Proofs.YtimkijmjbnmcbaaGreat
namespace Go.Proofs.YtimkijmjbnmcbaaGreat
open Go Go.RowKit
def ruleN (l : List Rule) (n : Nat) : Rule := l.getD n ⟨ByteArray.empty, 0, [], [], [], [], 0, 0⟩
theorem ruleN_eq {l : List Rule} {k : Nat} (h : k < l.length) : ruleN l k = l[k] := by simp [ruleN, h]
/-- An instance is one of a rule's. -/
def instB (q : Problem) (x : Rule) (i : Inst) : Bool := !((i.cells.length : Int) != (x.cells.length : Int)) && withinN i.cells q.cells && (!((i.symbols.length : Int) != (x.letters.length : Int)) && withinN i.symbols q.symbols)
/-- What Fits answers. -/
def fitsR (q : Problem) (l : List Rule) (pos : List Int) (i : Inst) : Bool × Int :=
  if libB q l pos then (if 0 ≤ i.rule ∧ i.rule < l.length then (if instB q (ruleN l i.rule.toNat) i then (fitB q pos (ruleN l i.rule.toNat) i, 0) else (false, 330)) else (false, 330)) else (false, libE q l pos)
theorem fitsR_lib {q : Problem} {l : List Rule} {pos : List Int} {i : Inst} (h : libB q l pos = false) : fitsR q l pos i = (false, libE q l pos) := by unfold fitsR; rw [h]; rfl
theorem fitsR_out {q : Problem} {l : List Rule} {pos : List Int} {i : Inst} (h : libB q l pos = true) (ho : ¬(0 ≤ i.rule ∧ i.rule < l.length)) : fitsR q l pos i = (false, 330) := by unfold fitsR; rw [h, if_pos rfl, if_neg ho]
theorem fitsR_in {q : Problem} {l : List Rule} {pos : List Int} {i : Inst} (h : libB q l pos = true) {k : Nat} (hk : k < l.length) (e : i.rule = k) : fitsR q l pos i = if instB q l[k] i then (fitB q pos l[k] i, 0) else (false, 330) := by
  unfold fitsR; rw [h, if_pos rfl, if_pos ⟨by omega, by omega⟩, e]
  have : ((k : Int)).toNat = k := by omega
  rw [this, ruleN_eq hk]
abbrev instC (t : Int) (ci si : List Int) (C : Option Addr) (cn : Nat) (D : Option Addr) (dn : Nat) : Obj := .cells #[.int .i64 t, .slice C ci.length cn, .slice D si.length dn] 32
/-- What Fits' boxes hold. -/
def FitsBox (W : World) (g : Nat) (q : Problem) (p : PPtr) (n : Nat) (A : Option Addr) (a : Nat) (t : Int) (ci si : List Int) (C : Option Addr) (cn : Nat) (D : Option Addr) (dn : Nat) : Prop :=
  (W.cell? ⟨g, 0, none⟩ = some (.int .i64 q.cells) ∧ W.cell? ⟨g, 1, none⟩ = some (.int .i64 q.symbols) ∧ W.cell? ⟨g, 2, none⟩ = some (.slice p.a q.values.length p.ac) ∧ W.cell? ⟨g, 3, none⟩ = some (.slice p.b q.neighbors.length p.bc) ∧ W.cell? ⟨g, 4, none⟩ = some (.slice p.c q.cons.length p.cc)) ∧
  W.cell? ⟨g + 1, 0, none⟩ = some (.slice A n a) ∧
  W.cell? ⟨g + 1 + 1, 0, none⟩ = some (.int .i64 t) ∧ W.cell? ⟨g + 1 + 1, 1, none⟩ = some (.slice C ci.length cn) ∧ W.cell? ⟨g + 1 + 1, 2, none⟩ = some (.slice D si.length dn)
theorem fitsBox {w W : World} {q : Problem} {p : PPtr} {l : List Rule} {A : Option Addr} {a : Nat} {B : Option Addr} {bn bc : Nat} {t : Int} {ci si : List Int} {C : Option Addr} {cn : Nat} {D : Option Addr} {dn : Nat} (h : Ext (((w.alloc (probO q p)).alloc (libO l A a B bn bc)).alloc (instC t ci si C cn D dn)) W) : FitsBox W w.heap.size q p l.length A a t ci si C cn D dn := by
  have h2 := ((Ext.rfl' ((w.alloc (probO q p)).alloc (libO l A a B bn bc))).al (instC t ci si C cn D dn)).tr h
  have h1 := ((Ext.rfl' (w.alloc (probO q p))).al (libO l A a B bn bc)).tr h2
  have e1 := World.size_alloc w (probO q p)
  have e2 := World.size_alloc (w.alloc (probO q p)) (libO l A a B bn bc)
  rw [e1] at e2
  exact ⟨⟨boxE h1 rfl 0 _ rfl, boxE h1 rfl 1 _ rfl, boxE h1 rfl 2 _ rfl, boxE h1 rfl 3 _ rfl, boxE h1 rfl 4 _ rfl⟩, boxE h2 e1 0 _ rfl, boxE h e2 0 _ rfl, boxE h e2 1 _ rfl, boxE h e2 2 _ rfl⟩
end Go.Proofs.YtimkijmjbnmcbaaGreat
namespace Go.Proofs.YtimkijmjbnmcbaaGreat
open Go Go.RowKit
/-- A condition without letters, whose last cell has just been chosen, is not met. -/
def barB (q : Problem) (pos l : List Int) (c : Cond) : Bool := ((c.letters.length : Int) == 0) && ((maxL c.cells == (l.length : Int) - 1) && !(metB q pos c l []))
/-- Whether some first cells are permitted. -/
def mayB (q : Problem) (pos : List Int) (x : Rule) (l : List Int) : Bool := x.conds.all fun c => !(barB q pos l c)
theorem maxL_ge {l : List Int} : ∀ x ∈ l, x ≤ maxL l := by
  have key : ∀ (l : List Int) (a : Int), a ≤ l.foldl max a ∧ ∀ x ∈ l, x ≤ l.foldl max a := by
    intro l
    induction l with
    | nil => intro a; exact ⟨Int.le_refl _, by simp⟩
    | cons y l ih =>
      intro a
      have := ih (max a y)
      refine ⟨by simp only [List.foldl_cons]; omega, fun x hx => ?_⟩
      rcases List.mem_cons.1 hx with rfl | hx
      · simp only [List.foldl_cons]; omega
      · exact this.2 x hx
  cases l with
  | nil => simp
  | cons y l =>
    intro x hx
    rcases List.mem_cons.1 hx with rfl | hx
    · exact (key l x).1
    · exact (key l y).2 x hx
theorem cond_first {q : Problem} {x : Rule} (hv : validR x = true) {c : Cond} (hc : c ∈ x.conds) {cells : List Int} (hr : ∀ v ∈ cells, 0 ≤ v ∧ v < q.cells) (h0 : c.letters.length = 0) (hm : maxL c.cells = (cells.length : Int) - 1) : CondOK q c cells [] := by
  have h := valid_cond hv hc
  unfold condB at h
  simp only [Bool.and_eq_true, decide_eq_true_eq] at h
  refine ⟨h.2, fun y hy => ?_, fun y hy => ?_, hr, by simp⟩
  · have h1 := diff_iff h.1.1.1 y hy
    have h2 := maxL_ge y hy
    omega
  · rw [List.length_eq_zero_iff.1 h0] at hy; simp at hy
theorem cond_some {x : Rule} (hv : validR x = true) {c : Cond} (hc : c ∈ x.conds) : 0 < c.cells.length := by
  have h := valid_cond hv hc
  unfold condB at h
  simp only [Bool.and_eq_true, decide_eq_true_eq] at h
  omega
set_option maxHeartbeats 4000000 in
set_option maxRecDepth 100000 in
theorem mList1_ok (w : World) (q : Problem) (pos : List Int) (g : Nat) (m : MPtr) (h : RMat w q pos g m) (x : Rule) (p : RPtr) (hx : RulePs w x p) (gl gb : Nat) (hgb : gb < w.heap.size)
    (f4 : w.cell? ⟨gl, 4, none⟩ = some (.slice p.c x.conds.length p.cc)) (fb : w.cell? ⟨gb, 0, none⟩ = some (.pointer (some ⟨g, 0, none⟩))) (C : Option Addr) (cn : Nat) (cells : List Int) (hC : RInts w C cells) (hpos : checkB q pos = true) (hv : validR x = true) (hr : ∀ v ∈ cells, 0 ≤ v ∧ v < q.cells) :
    Calls Tryz.prog 31 #[.slice C cells.length cn, .pointer (some ⟨gl, 0, none⟩), .pointer (some ⟨gb, 0, none⟩)] w fun e w' => e = .returned (.bool (mayB q pos x cells)) ∧ Ext w w' := by
  have hcl := hx.conds.len
  have hCl := hC.len
  have Hpos := hid hpos; have Hv := hid hv; have Hr := hid hr; clear hpos hv hr
  go_enter Tryz.func31, Tryz.ntmps31
  go_wp2_with fail
  go_loopw [6, 10] (fun _ t wr => ∃ j : Nat, j ≤ x.conds.length ∧ t = .int .i64 j ∧ Hid ((x.conds.take j).all (fun c => !(barB q pos cells c)) = true) ∧ Ext w wr) (fun _ t _ => x.conds.length - (intOf t).toNat)
  case atStart => exact ⟨0, Nat.zero_le _, rfl, rfl, Ext.rfl' _⟩
  case round =>
    clear f4
    obtain ⟨j, hj, rfl, hno, hxr⟩ := hrel
    by_cases hlt : j < x.conds.length
    · obtain ⟨wo, rfl⟩ : ∃ wo : World, wo = wr := ⟨_, rfl⟩
      obtain ⟨bd, A1, a1, B1, b1, hA, hab, r1, r2, -, -, g0, g1, g2, g3⟩ := (hx.conds.to hxr).condAt j hlt
      rw [hA]
      go_upto_region 4 with fail
      clear g0 g1 g2 g3
      obtain ⟨wi, hwi⟩ : ∃ wi, wo.alloc (condO x.conds[j] A1 a1 B1 b1) = wi := ⟨_, rfl⟩
      have xi : Ext wo wi := by rw [← hwi]; exact (Ext.rfl' _).al _
      have c0 : wi.cell? ⟨wo.heap.size, 0, none⟩ = some (.int .i64 x.conds[j].kind) := boxE (by rw [hwi]; exact Ext.rfl' _) rfl 0 _ rfl
      have c1 : wi.cell? ⟨wo.heap.size, 1, none⟩ = some (.slice A1 x.conds[j].cells.length a1) := boxE (by rw [hwi]; exact Ext.rfl' _) rfl 1 _ rfl
      have c2 : wi.cell? ⟨wo.heap.size, 2, none⟩ = some (.slice B1 x.conds[j].letters.length b1) := boxE (by rw [hwi]; exact Ext.rfl' _) rfl 2 _ rfl
      have c3 : wi.cell? ⟨wo.heap.size, 3, none⟩ = some (.int .i64 x.conds[j].n) := boxE (by rw [hwi]; exact Ext.rfl' _) rfl 3 _ rfl
      rw [hwi]
      clear hwi
      have yi := hxr.tr xi
      have fbi := cellE yi fb hgb
      have hmem := List.getElem_mem hlt
      have hmx := sMax_ok wi A1 a1 _ (r1.to xi) (cond_some Hv.out hmem)
      have hM := maxL_i64 r1.i64
      unfold I64 at hM
      cases h0 : ((x.conds[j].letters.length : Int) == 0)
      · have hb : (!(barB q pos cells x.conds[j])) = true := by unfold barB; rw [h0]; rfl
        have Hb := hid hb; clear hb hmx
        go_wp2_with fail
        go_roundw
        case rel => exact ⟨j + 1, by omega, by go_num, all_on hlt hno Hb.out, yi⟩
        case measure => simp [intOf]; omega
      cases h1 : (maxL x.conds[j].cells == (cells.length : Int) - 1)
      · have hb : (!(barB q pos cells x.conds[j])) = true := by unfold barB; rw [h0, h1]; rfl
        have Hb := hid hb; clear hb
        have Hmx := hid hmx; clear hmx
        generalize maxL x.conds[j].cells = M at *
        go_wp2_with (go_at_call 32; refine Hmx.out.mono ?_; rintro e w' ⟨rfl, rfl⟩)
        go_roundw
        case rel => exact ⟨j + 1, by omega, by go_num, all_on hlt hno Hb.out, yi⟩
        case measure => simp [intOf]; omega
      have hok := cond_first (q := q) Hv.out hmem Hr.out (by have := beq_iff_eq.1 h0; omega) (beq_iff_eq.1 h1)
      have met := mMet_ok wi q pos g m (h.to yi) x.conds[j] A1 a1 B1 b1 C cn none 0 cells [] (r1.to xi) (r2.to xi) (hC.to yi) (RInts.nil _ _) Hpos.out hok
      rw [List.length_nil] at met
      obtain ⟨b, hb⟩ : ∃ b, metB q pos x.conds[j] cells [] = b := ⟨_, rfl⟩
      rw [hb] at met
      have Hmet := hid met; clear met hok
      have hbar : (!(barB q pos cells x.conds[j])) = b := by unfold barB; rw [h0, h1, hb]; cases b <;> rfl
      have Hb := hid hbar; clear hb hbar
      have Hmx := hid hmx; clear hmx
      generalize maxL x.conds[j].cells = M at *
      cases b
      · go_wp2_with (first
          | (go_at_call 32; refine Hmx.out.mono ?_; rintro e w' ⟨rfl, rfl⟩)
          | (go_at_call 26; refine Hmet.out.mono ?_; rintro e w7 ⟨rfl, hb7⟩))
        go_ret
        exact ⟨ret_bool (all_of_at (p := fun c => !(barB q pos cells c)) j hlt Hb.out).symm, yi.tr hb7⟩
      · go_wp2_with (first
          | (go_at_call 32; refine Hmx.out.mono ?_; rintro e w' ⟨rfl, rfl⟩)
          | (go_at_call 26; refine Hmet.out.mono ?_; rintro e w7 ⟨rfl, hb7⟩))
        go_roundw
        case rel => exact ⟨j + 1, by omega, by go_num, all_on hlt hno Hb.out, yi.tr hb7⟩
        case measure => simp [intOf]; omega
    · go_wp2_with fail
      go_ret
      exact ⟨ret_bool (all_end hno hlt).symm, hxr⟩
theorem mList2_ok (w : World) (v : Value) : Calls Tryz.prog 34 #[v] w fun e w' => e = .returned (.bool true) ∧ Ext w w' := by
  go_enter Tryz.func34, Tryz.ntmps34
  go_wp2_with fail
  go_ret
  exact ⟨rfl, Ext.rfl' _⟩
/-- A condition with letters is not met. -/
def lackB (q : Problem) (pos cells symbols : List Int) (c : Cond) : Bool := decide (0 < (c.letters.length : Int)) && !(metB q pos c cells symbols)
set_option maxHeartbeats 4000000 in
set_option maxRecDepth 100000 in
theorem mList3_ok (w : World) (q : Problem) (pos : List Int) (g : Nat) (m : MPtr) (h : RMat w q pos g m) (gb gc gs : Nat) (hgb : gb < w.heap.size) (hgc : gc < w.heap.size) (hgs : gs < w.heap.size)
    (fb : w.cell? ⟨gb, 0, none⟩ = some (.pointer (some ⟨g, 0, none⟩))) (C : Option Addr) (cn : Nat) (D : Option Addr) (dn : Nat) (cells symbols : List Int) (fc : w.cell? ⟨gc, 0, none⟩ = some (.slice C cells.length cn)) (fs : w.cell? ⟨gs, 0, none⟩ = some (.slice D symbols.length dn))
    (hC : RInts w C cells) (hD : RInts w D symbols) (c : Cond) (A : Option Addr) (a : Nat) (B : Option Addr) (b : Nat) (hA : RInts w A c.cells) (hB : RInts w B c.letters) (hpos : checkB q pos = true) (hok : CondOK q c cells symbols) :
    Calls Tryz.prog 36 #[condV c A a B b, .pointer (some ⟨gb, 0, none⟩), .pointer (some ⟨gc, 0, none⟩), .pointer (some ⟨gs, 0, none⟩)] w fun e w' => e = .returned (.bool (lackB q pos cells symbols c)) ∧ Ext w w' := by
  have x0 := (Ext.rfl' w).al (condO c A a B b)
  have met := mMet_ok (w.alloc (condO c A a B b)) q pos g m (h.to x0) c A a B b C cn D dn cells symbols (hA.to x0) (hB.to x0) (hC.to x0) (hD.to x0) hpos hok
  have hbl := hB.len
  have n1 : w.heap.size ≠ gb := by omega
  have n2 : w.heap.size ≠ gc := by omega
  have n3 : w.heap.size ≠ gs := by omega
  obtain ⟨r, hr⟩ : ∃ b, metB q pos c cells symbols = b := ⟨_, rfl⟩
  rw [hr] at met
  have Hmet := hid met; have Hr := hid hr; clear met hr hok
  by_cases h0 : 0 < c.letters.length
  rotate_left
  · have hb : lackB q pos cells symbols c = false := by unfold lackB; rw [show decide (0 < (c.letters.length : Int)) = false from decide_eq_false (by omega)]; rfl
    have Hb := hid hb; clear hb
    go_enter Tryz.func36, Tryz.ntmps36
    go_wp2_with fail
    go_ret
    exact ⟨ret_bool Hb.out.symm, x0⟩
  · have hb : lackB q pos cells symbols c = !r := by unfold lackB; rw [show decide (0 < (c.letters.length : Int)) = true from decide_eq_true (by omega), Hr.out]; rfl
    have Hb := hid hb; clear hb Hr
    go_enter Tryz.func36, Tryz.ntmps36
    go_wp2_with (go_at_call 26; refine Hmet.out.mono ?_; rintro e w7 ⟨rfl, hb7⟩)
    go_ret
    exact ⟨ret_bool Hb.out.symm, x0.tr hb7⟩
end Go.Proofs.YtimkijmjbnmcbaaGreat
namespace Go.Proofs.YtimkijmjbnmcbaaGreat
open Go Go.RowKit
theorem mDifferent_x (w : World) (A : Option Addr) (c : Nat) (l : List Int) (h : RInts w A l) (n : Int) (a b : Bool) (ha : diffB l n = a) (hb : withinN l n = b) : Calls Tryz.prog 23 #[.slice A l.length c, .int .i64 n] w (RetBB w a b) := by
  subst ha; subst hb; exact mDifferent_ok w A c l h n
theorem diff_within {l : List Int} {n : Int} (h : diffB l n = true) : withinN l n = true := by rw [diffB_split, Bool.and_eq_true] at h; exact h.1
set_option maxHeartbeats 4000000 in
set_option maxRecDepth 100000 in
theorem mFits_ok (w : World) (q : Problem) (p : PPtr) (l : List Rule) (A : Option Addr) (a : Nat) (B : Option Addr) (bn bc : Nat) (P : Option Addr) (pn : Nat) (pos : List Int) (i : Inst) (z : IPtr) (hq : RProb w q p) (hl : RRules w A l) (hP : RInts w P pos) (hi : RInstP w i z) :
    Calls Tryz.prog 9 #[probV q p, libW l A a B bn bc, .slice P pos.length pn, instW i z] w (RetBE w (fitsR q l pos i)) := by
  obtain ⟨pa, pac, pb, pbc, pc, pcc⟩ := p
  obtain ⟨t, ci, si⟩ := i
  obtain ⟨C, cn, D, dn⟩ := z
  have x0 := (((Ext.rfl' w).al (probO q ⟨pa, pac, pb, pbc, pc, pcc⟩)).al (libO l A a B bn bc)).al (instC t ci si C cn D dn)
  have F : ∀ V, Ext (((w.alloc (probO q ⟨pa, pac, pb, pbc, pc, pcc⟩)).alloc (libO l A a B bn bc)).alloc (instC t ci si C cn D dn)) V → FitsBox V w.heap.size q ⟨pa, pac, pb, pbc, pc, pcc⟩ l.length A a t ci si C cn D dn := fun V hV => fitsBox hV
  have HF := hid F; clear F
  have hC := hi.cells
  have hD := hi.symbols
  have hcn := hi.capc
  have hdn := hi.caps
  have hti := hi.rule
  dsimp only at hC hD hcn hdn hti
  have Hi := hid hi; clear hi
  have hll := hl.len
  cases hlib : libB q l pos
  · have hne := libE_no hlib
    have Hr := hid (fitsR_lib (i := ⟨t, ci, si⟩) hlib); clear hlib
    go_enter Tryz.func9, Tryz.ntmps9
    go_wp2_with (go_at_call 22; refine (mcheck_ok _ q ⟨pa, pac, pb, pbc, pc, pcc⟩ l A a B bn bc P pn pos (hq.to x0) (hl.to x0) (hP.to x0)).mono ?_; rintro e w1 ⟨rfl, hb1⟩; obtain ⟨⟨f0, f1, f2, f3, f4⟩, f5, f6, f7, f8⟩ := HF.out w1 hb1; dsimp only at f2 f3 f4)
    go_ret2
    exact RetBE.of Hr.out (x0.tr hb1)
  have hne : (libE q l pos != 0) = false := by rw [libE_ok hlib]; rfl
  have Hlib := hid hlib; clear hlib
  by_cases h1 : t < 0
  · have Hr := hid (fitsR_out (i := ⟨t, ci, si⟩) Hlib.out (by dsimp only; omega))
    go_enter Tryz.func9, Tryz.ntmps9
    go_wp2_with (go_at_call 22; refine (mcheck_ok _ q ⟨pa, pac, pb, pbc, pc, pcc⟩ l A a B bn bc P pn pos (hq.to x0) (hl.to x0) (hP.to x0)).mono ?_; rintro e w1 ⟨rfl, hb1⟩; obtain ⟨⟨f0, f1, f2, f3, f4⟩, f5, f6, f7, f8⟩ := HF.out w1 hb1; dsimp only at f2 f3 f4)
    go_ret2
    exact RetBE.of Hr.out (x0.tr hb1)
  by_cases h2 : (l.length : Int) ≤ t
  · have Hr := hid (fitsR_out (i := ⟨t, ci, si⟩) Hlib.out (by dsimp only; omega))
    go_enter Tryz.func9, Tryz.ntmps9
    go_wp2_with (go_at_call 22; refine (mcheck_ok _ q ⟨pa, pac, pb, pbc, pc, pcc⟩ l A a B bn bc P pn pos (hq.to x0) (hl.to x0) (hP.to x0)).mono ?_; rintro e w1 ⟨rfl, hb1⟩; obtain ⟨⟨f0, f1, f2, f3, f4⟩, f5, f6, f7, f8⟩ := HF.out w1 hb1; dsimp only at f2 f3 f4)
    go_ret2
    exact RetBE.of Hr.out (x0.tr hb1)
  obtain ⟨k, rfl⟩ : ∃ k : Nat, t = k := ⟨t.toNat, by omega⟩
  have hk : k < l.length := by omega
  clear h1 h2
  have Hr := hid (fitsR_in (i := ⟨k, ci, si⟩) Hlib.out hk rfl)
  obtain ⟨ad, p', rfl, hab, hps, g0, g1, g2, g3, g4, g5, g6, g7⟩ := (hl.to x0).ruleLoad k hk
  have R : ∀ V, Ext (((w.alloc (probO q ⟨pa, pac, pb, pbc, pc, pcc⟩)).alloc (libO l (some ad) a B bn bc)).alloc (instC k ci si C cn D dn)) V → ad.block < V.heap.size ∧ RuleAt V (ad.add (k * 8)) l[k] p' := fun V hV => ⟨hV.lt hab, RuleAt.keep hV (by rw [block_of_add]; exact hab) ⟨g0, g1, g2, g3, g4, g5, g6, g7⟩⟩
  have HR := hid R; clear R hab g0 g1 g2 g3 g4 g5 g6 g7
  have hvr : validR l[k] = true := by
    have := Hlib.out; simp only [libB, Bool.and_eq_true] at this
    exact List.all_eq_true.1 this.2 _ (List.getElem_mem hk)
  have hpos : checkB q pos = true := by
    have := Hlib.out; simp only [libB, Bool.and_eq_true] at this
    exact this.1.1
  have Hvr := hid hvr; have Hpos := hid hpos; clear hvr hpos
  obtain ⟨a1, ha1⟩ : ∃ b, diffB ci q.cells = b := ⟨_, rfl⟩
  obtain ⟨n1, hn1⟩ : ∃ b, withinN ci q.cells = b := ⟨_, rfl⟩
  obtain ⟨a2, ha2⟩ : ∃ b, diffB si q.symbols = b := ⟨_, rfl⟩
  obtain ⟨n2, hn2⟩ : ∃ b, withinN si q.symbols = b := ⟨_, rfl⟩
  have d1 := fun W hW => mDifferent_x W C cn ci (hC.to hW) q.cells a1 n1 ha1 hn1
  have d2 := fun W hW => mDifferent_x W D dn si (hD.to hW) q.symbols a2 n2 ha2 hn2
  have D1 := hid d1; have D2 := hid d2; clear d1 d2
  have Ha1 := hid ha1; have Hn1 := hid hn1; have Ha2 := hid ha2; have Hn2 := hid hn2; clear ha1 hn1 ha2 hn2
  go_enter Tryz.func9, Tryz.ntmps9
  go_upto_region 7 with (go_at_call 22; refine (mcheck_ok _ q ⟨pa, pac, pb, pbc, pc, pcc⟩ l (some ad) a B bn bc P pn pos (hq.to x0) (hl.to x0) (hP.to x0)).mono ?_; rintro e w1 ⟨rfl, hb1⟩; obtain ⟨⟨f0, f1, f2, f3, f4⟩, f5, f6, f7, f8⟩ := HF.out w1 hb1; dsimp only at f2 f3 f4; obtain ⟨hab, g0, g1, g2, g3, g4, g5, g6, g7⟩ := HR.out w1 hb1)
  clear f0 f1 f2 f3 f4 f5 f6 f7 f8 g0 g1 g2 g3 g4 g5 g6 g7
  obtain ⟨w2, hw2⟩ : ∃ w2, w1.alloc (ruleO l[k] p') = w2 := ⟨_, rfl⟩
  have hb2 : Ext w1 w2 := by rw [← hw2]; exact (Ext.rfl' _).al _
  have hrb : ∀ V, Ext w2 V → RuleBox V w1.heap.size l[k] p' := fun V hV => ruleBox (by rw [hw2]; exact hV) rfl
  have Hrb := hid hrb; clear hrb
  have y2 := hb1.tr hb2
  rw [hw2]
  clear hw2
  obtain ⟨g0, g1, g2, g3, g4, g5, g6, g7⟩ := Hrb.out w2 (Ext.rfl' _)
  obtain ⟨⟨f0, f1, f2, f3, f4⟩, f5, f6, f7, f8⟩ := HF.out w2 y2
  dsimp only at f2 f3 f4
  go_upto_region 9 with (first
    | (go_at_call 23; (with_reducible refine (D1.out _ (x0.tr y2)).mono ?_); rintro e w3 ⟨rfl, hb3⟩; clear f0 f1 f2 f3 f4 f5 f6 f7 f8 g0 g1 g2 g3 g4 g5 g6 g7; obtain ⟨g0, g1, g2, g3, g4, g5, g6, g7⟩ := Hrb.out w3 hb3; obtain ⟨⟨f0, f1, f2, f3, f4⟩, f5, f6, f7, f8⟩ := HF.out w3 (y2.tr hb3); dsimp only at f2 f3 f4)
    | (go_at_call 23; (with_reducible refine (D2.out _ (x0.tr (y2.tr hb3))).mono ?_); rintro e w4 ⟨rfl, hb4⟩; clear f0 f1 f2 f3 f4 f5 f6 f7 f8 g0 g1 g2 g3 g4 g5 g6 g7; obtain ⟨g0, g1, g2, g3, g4, g5, g6, g7⟩ := Hrb.out w4 (hb3.tr hb4); obtain ⟨⟨f0, f1, f2, f3, f4⟩, f5, f6, f7, f8⟩ := HF.out w4 (y2.tr (hb3.tr hb4)); dsimp only at f2 f3 f4))
  clear D1 D2
  have y4 := y2.tr (hb3.tr hb4)
  have hr4 := fun V (hV : Ext w4 V) => Hrb.out V (hb3.tr (hb4.tr hV))
  have Hr4 := hid hr4; clear hr4 Hrb
  cases n1
  · have hr : fitsR q l pos ⟨k, ci, si⟩ = (false, 330) := by rw [Hr.out]; unfold instB; rw [Hn1.out]; simp
    have Hr2 := hid hr; clear hr
    go_wp2_with fail
    go_ret2
    exact RetBE.of Hr2.out (x0.tr y4)
  cases n2
  · have hr : fitsR q l pos ⟨k, ci, si⟩ = (false, 330) := by rw [Hr.out]; unfold instB; rw [Hn2.out]; simp
    have Hr2 := hid hr; clear hr
    go_wp2_with fail
    go_ret2
    exact RetBE.of Hr2.out (x0.tr y4)
  cases h3 : ((ci.length : Int) != (l[k].cells.length : Int))
  rotate_left
  · have hr : fitsR q l pos ⟨k, ci, si⟩ = (false, 330) := by rw [Hr.out]; unfold instB; rw [h3]; rfl
    have Hr2 := hid hr; clear hr
    go_wp2_with fail
    go_ret2
    exact RetBE.of Hr2.out (x0.tr y4)
  cases h5 : ((si.length : Int) != (l[k].letters.length : Int))
  rotate_left
  · have hr : fitsR q l pos ⟨k, ci, si⟩ = (false, 330) := by rw [Hr.out]; unfold instB; rw [h5]; simp
    have Hr2 := hid hr; clear hr
    go_wp2_with fail
    go_ret2
    exact RetBE.of Hr2.out (x0.tr y4)
  have hr : fitsR q l pos ⟨k, ci, si⟩ = (fitB q pos l[k] ⟨k, ci, si⟩, 0) := by rw [Hr.out]; unfold instB; rw [h3, Hn1.out, h5, Hn2.out]; rfl
  have Hr2 := hid hr; clear hr Hr
  cases a1
  · have hr : fitB q pos l[k] ⟨k, ci, si⟩ = false := by unfold fitB; dsimp only; rw [Ha1.out]; simp
    rw [hr] at Hr2
    clear hr
    go_wp2_with fail
    go_ret2
    exact RetBE.of Hr2.out (x0.tr y4)
  cases a2
  · have hr : fitB q pos l[k] ⟨k, ci, si⟩ = false := by unfold fitB; dsimp only; rw [Ha2.out]; simp
    rw [hr] at Hr2
    clear hr
    go_wp2_with fail
    go_ret2
    exact RetBE.of Hr2.out (x0.tr y4)
  cases hd : deadB pos
  rotate_left
  · have hr : fitB q pos l[k] ⟨k, ci, si⟩ = false := by unfold fitB; dsimp only; rw [hd]; simp
    rw [hr] at Hr2
    clear hr
    go_wp2_with (go_at_call 24; refine (pDead_x _ P pn pos (hP.to (x0.tr y4)) true hd).mono ?_; rintro e w5 ⟨rfl, hb5⟩)
    go_ret2
    exact RetBE.of Hr2.out (x0.tr (y4.tr hb5))
  have hv : validB q = true := by have := Hpos.out; unfold checkB at this; rw [Bool.and_eq_true] at this; exact this.1
  have hmn := fun W hW => mNew_ok W q ⟨pa, pac, pb, pbc, pc, pcc⟩ P pn pos (hq.to hW) (hP.to hW) (fun c hc => cons_len hv hc) (valid_cons hv).1
  have Hmn := hid hmn; clear hmn hv
  have hic : ci.length = l[k].cells.length := by have := bne_eq_false_iff_eq.1 h3; omega
  have his : si.length = l[k].letters.length := by have := bne_eq_false_iff_eq.1 h5; omega
  have hok : ∀ c ∈ l[k].conds, CondOK q c ci si := fun c hc => condOK_of Ha1.out Ha2.out (by rw [hic, his]; exact valid_cond Hvr.out hc)
  have hpc : ∀ y ∈ l[k].premises, (0 ≤ y.cell ∧ y.cell < (ci.length : Int)) ∧ Idx y.letters si.length := fun y hy => by rw [hic, his]; exact valid_prem Hvr.out hy
  have hb := checkB_bd Hpos.out
  have hcells : Idx ci pos.length := fun y hy => by have := diff_iff Ha1.out y hy; omega
  have hsym : Idx si 16 := fun y hy => by have := diff_iff Ha2.out y hy; omega
  have Hcells := hid hcells; have Hsym := hid hsym; have Hok := hid hok; have Hpc := hid hpc; clear hcells hsym hok hpc hic his hb
  have hr3 : fitB q pos l[k] ⟨k, ci, si⟩ = (l[k].conds.all (fun c => metB q pos c ci si) && l[k].premises.all (premB1 pos ci si)) := by unfold fitB; dsimp only; rw [hd, Ha1.out, Ha2.out]; simp
  have Hr3 := hid hr3; clear hr3
  go_upto_region 14 with (first
    | (go_at_call 24; refine (pDead_x _ P pn pos (hP.to (x0.tr y4)) false hd).mono ?_; rintro e w5 ⟨rfl, hb5⟩; clear f0 f1 f2 f3 f4 f5 f6 f7 f8 g0 g1 g2 g3 g4 g5 g6 g7; obtain ⟨g0, g1, g2, g3, g4, g5, g6, g7⟩ := Hr4.out w5 hb5; obtain ⟨⟨f0, f1, f2, f3, f4⟩, f5, f6, f7, f8⟩ := HF.out w5 (y4.tr hb5); dsimp only at f2 f3 f4)
    | (go_at_call 25; (with_reducible refine (Hmn.out _ (x0.tr (y4.tr hb5))).mono ?_); rintro e w6 ⟨gm, m, rfl, hm, hb6⟩; clear f0 f1 f2 f3 f4 f5 f6 f7 f8 g0 g1 g2 g3 g4 g5 g6 g7; obtain ⟨g0, g1, g2, g3, g4, g5, g6, g7⟩ := Hr4.out w6 (hb5.tr hb6)))
  clear Hmn h3 h5
  have y6 := y4.tr (hb5.tr hb6)
  have hx6 := hps.to y6
  have hr6 := fun V (hV : Ext w6 V) => Hr4.out V (hb5.tr (hb6.tr hV))
  have Hr6 := hid hr6; clear hr6 Hr4
  have hcl := hx6.conds.len
  go_wp2_with fail
  clear g0 g1 g2 g3 g4 g5 g6 g7
  go_loopw [18, 99] (fun _ t wr => ∃ j : Nat, j ≤ l[k].conds.length ∧ t = .int .i64 j ∧ Hid ((l[k].conds.take j).all (fun c => metB q pos c ci si) = true) ∧ Ext w6 wr) (fun _ t _ => l[k].conds.length - (intOf t).toNat)
  case atStart => exact ⟨0, Nat.zero_le _, rfl, rfl, Ext.rfl' _⟩
  case round =>
    obtain ⟨j, hj, rfl, hno, hxr⟩ := hrel
    by_cases hlt : j < l[k].conds.length
    · obtain ⟨wo, rfl⟩ : ∃ wo : World, wo = wr := ⟨_, rfl⟩
      obtain ⟨bd, A1, a1, B1, b1, hA, hab, r1, r2, -, -, g0, g1, g2, g3⟩ := (hx6.conds.to hxr).condAt j hlt
      rw [hA]
      go_upto_region 17 with fail
      clear g0 g1 g2 g3
      obtain ⟨wi, hwi⟩ : ∃ wi, wo.alloc (condO l[k].conds[j] A1 a1 B1 b1) = wi := ⟨_, rfl⟩
      have xi : Ext wo wi := by rw [← hwi]; exact (Ext.rfl' _).al _
      have c0 : wi.cell? ⟨wo.heap.size, 0, none⟩ = some (.int .i64 l[k].conds[j].kind) := boxE (by rw [hwi]; exact Ext.rfl' _) rfl 0 _ rfl
      have c1 : wi.cell? ⟨wo.heap.size, 1, none⟩ = some (.slice A1 l[k].conds[j].cells.length a1) := boxE (by rw [hwi]; exact Ext.rfl' _) rfl 1 _ rfl
      have c2 : wi.cell? ⟨wo.heap.size, 2, none⟩ = some (.slice B1 l[k].conds[j].letters.length b1) := boxE (by rw [hwi]; exact Ext.rfl' _) rfl 2 _ rfl
      have c3 : wi.cell? ⟨wo.heap.size, 3, none⟩ = some (.int .i64 l[k].conds[j].n) := boxE (by rw [hwi]; exact Ext.rfl' _) rfl 3 _ rfl
      rw [hwi]
      clear hwi
      have yi := x0.tr (y6.tr (hxr.tr xi))
      obtain ⟨-, -, -, f7, f8⟩ := HF.out wi (y6.tr (hxr.tr xi))
      have Hok1 := hid (Hok.out _ (List.getElem_mem hlt))
      have met := mMet_ok wi q pos gm m (hm.to (hxr.tr xi)) l[k].conds[j] A1 a1 B1 b1 C cn D dn ci si (r1.to xi) (r2.to xi) (hC.to yi) (hD.to yi) Hpos.out Hok1.out
      obtain ⟨b, hb⟩ : ∃ b, metB q pos l[k].conds[j] ci si = b := ⟨_, rfl⟩
      rw [hb] at met
      have Hmet := hid met; clear met
      have Hb := hid hb; clear hb
      cases b
      · have hr : fitB q pos l[k] ⟨k, ci, si⟩ = false := by rw [Hr3.out, all_of_at j hlt Hb.out]; rfl
        rw [hr] at Hr2
        clear hr
        go_wp2_with (go_at_call 26; refine Hmet.out.mono ?_; rintro e w7 ⟨rfl, hb7⟩)
        go_ret2
        exact RetBE.of Hr2.out (yi.tr hb7)
      · go_wp2_with (go_at_call 26; refine Hmet.out.mono ?_; rintro e w7 ⟨rfl, hb7⟩)
        go_roundw
        case rel => exact ⟨j + 1, by omega, by go_num, all_on hlt hno Hb.out, hxr.tr (xi.tr hb7)⟩
        case measure => simp [intOf]; omega
    · have hall := all_end hno hlt
      have hr : fitB q pos l[k] ⟨k, ci, si⟩ = l[k].premises.all (premB1 pos ci si) := by rw [Hr3.out, hall, Bool.true_and]
      rw [hr] at Hr2
      clear hr hall hno Hr3
      obtain ⟨g0, g1, g2, g3, g4, g5, g6, g7⟩ := Hr6.out wr hxr
      obtain ⟨-, -, -, f7, f8⟩ := HF.out wr (y6.tr hxr)
      have yi := x0.tr (y6.tr hxr)
      have hpm := mPrem_ok wr q pos gm m (hm.to hxr) l[k] p' (hx6.to hxr) C cn D dn ci si (hC.to yi) (hD.to yi) Hpc.out Hcells.out Hsym.out
      have Hpm := hid hpm; clear hpm
      go_wp2_with (go_at_call 27; refine Hpm.out.mono ?_; rintro e w7 ⟨rfl, hb7⟩)
      go_ret2
      exact RetBE.of Hr2.out (yi.tr hb7)
end Go.Proofs.YtimkijmjbnmcbaaGreat
namespace Go.Proofs.YtimkijmjbnmcbaaGreat
open Go Go.RowKit
/-- A block that has been laid whole holds a list. -/
theorem RSl.ofBlk {α : Type} {sz : Nat} {R : World → List Value → α → Prop} {W : World} {g : Nat} {t : TypeId} {cs : Array Value} (hb : Blk W g t cs) (vss : List (List Value)) (l : List α) (hlen : vss.length = l.length) (hcs : cs = vss.flatten.toArray) (hsz : ∀ vs ∈ vss, vs.length = sz)
    (hR : ∀ (i : Nat) (h : i < l.length), R W (vss[i]'(by omega)) l[i]) (hl : l.length * (8 * sz) ≤ 140737488355328) : RSl sz R W (some ⟨g, 0, none⟩) l := by
  refine ⟨hl, fun _ => ⟨_, rfl, hb.lt, fun i hi => ⟨vss[i]'(by omega), hsz _ (List.getElem_mem _), hR i hi, fun j hj => ?_⟩⟩⟩
  have e : (⟨g, 0, none⟩ : Addr).add (i * sz + j) = ⟨g, i * sz + j, none⟩ := by unfold Addr.add; simp; intro h1 h2; omega
  rw [e, hb.cell, hcs, List.getElem?_toArray]
  have key : ∀ (vss : List (List Value)) (i j : Nat) (h : i < vss.length) (hj : j < vss[i].length), (∀ vs ∈ vss, vs.length = sz) → vss.flatten[i * sz + j]? = some vss[i][j] := by
    intro vss
    induction vss with
    | nil => intro i j h; simp at h
    | cons v vss ih =>
      intro i j h hj hs
      have hv := hs v (by simp)
      cases i with
      | zero =>
        simp only [List.getElem_cons_zero] at hj ⊢
        rw [List.flatten_cons, List.getElem?_append_left (by omega)]
        simp [hj]
      | succ i =>
        simp only [List.getElem_cons_succ] at hj ⊢
        rw [List.flatten_cons, List.getElem?_append_right (by rw [hv, Nat.succ_mul]; omega), hv]
        have := ih i j (by simpa using h) hj fun vs h => hs vs (List.mem_cons_of_mem _ h)
        rw [← this]
        congr 1
        rw [Nat.succ_mul]; omega
  exact key vss i j (by omega) hj hsz
theorem Blk.two {w : World} {o1 o2 : Obj} : ((w.alloc o1).alloc o2).heap.size = w.heap.size + 1 + 1 := by simp
theorem ints_of {W : World} {g : Nat} {t : TypeId} {cs : Array Value} (hb : Blk W g t cs) (l : List Int) (hcs : cs = (l.map (Value.int .i64)).toArray) (hi : ∀ x ∈ l, I64 x) (hl : l.length ≤ 1000) : RInts W (some ⟨g, 0, none⟩) l :=
  RSl.ofBlk hb (l.map fun x => [.int .i64 x]) l (by simp) (by
    rw [hcs]; congr 1
    clear hcs hi hl
    induction l with
    | nil => rfl
    | cons x l ih => simp [← ih]) (by simp) (fun i h => by simp only [List.getElem_map]; exact ⟨rfl, hi _ (List.getElem_mem h)⟩) (by omega)
theorem RSl.one {α : Type} {sz : Nat} {R : World → List Value → α → Prop} {W : World} {g : Nat} {t : TypeId} {cs : Array Value} (hb : Blk W g t cs) (vs : List Value) (x : α) (hcs : cs = vs.toArray) (hsz : vs.length = sz) (hR : R W vs x) (hl : sz ≤ 1000) : RSl sz R W (some ⟨g, 0, none⟩) [x] :=
  RSl.ofBlk hb [vs] [x] rfl (by rw [hcs]; simp) (by simpa using hsz) (fun i h => by
    match i, h with
    | 0, _ => exact hR) (by simp; omega)
theorem strs_of {W : World} {g : Nat} {t : TypeId} {cs : Array Value} (hb : Blk W g t cs) (l : List ByteArray) (hcs : cs = (l.map Value.string).toArray) (hi : ∀ x ∈ l, x.size ≤ maxLen) (hl : l.length ≤ 1000) : RStrs W (some ⟨g, 0, none⟩) l :=
  RSl.ofBlk hb (l.map fun x => [.string x]) l (by simp) (by
    rw [hcs]; congr 1
    clear hcs hi hl
    induction l with
    | nil => rfl
    | cons x l ih => simp [← ih]) (by simp) (fun i h => by simp only [List.getElem_map]; exact ⟨rfl, hi _ (List.getElem_mem h)⟩) (by omega)
def lib1 : List Rule := [⟨⟨#[115, 105, 110, 103, 108, 101]⟩, 1, [⟨#[112]⟩, ⟨#[113]⟩], [⟨#[120]⟩], [⟨1, [0, 1], [], 0⟩], [⟨0, [0]⟩], 1, 0⟩]
/-- A library is handed back. -/
def RetLib (w : World) (l : List Rule) (e : Ending) (w' : World) : Prop := ∃ A a, e = .returned (libW l A a none 0 0) ∧ RRules w' A l ∧ Ext w w'
theorem i64_lit {l : List Int} (h : l.all (fun x => decide (-9223372036854775808 ≤ x) && decide (x ≤ 9223372036854775807)) = true) : ∀ x ∈ l, I64 x := by
  intro x hx
  have := List.all_eq_true.1 h x hx
  simp only [Bool.and_eq_true, decide_eq_true_eq] at this
  exact this
theorem lib1_at {W : World} {g : Nat} {t1 t2 t3 t4 t5 t6 t7 : TypeId} (b1 : Blk W (g + 1) t1 #[.string ⟨#[112]⟩, .string ⟨#[113]⟩]) (b2 : Blk W (g + 1 + 1) t2 #[.string ⟨#[120]⟩]) (b3 : Blk W (g + 1 + 1 + 1) t3 #[.int .i64 0, .int .i64 1])
    (b4 : Blk W (g + 1 + 1 + 1 + 1) t4 #[.int .i64 1, .slice (some ⟨g + 1 + 1 + 1, 0, none⟩) 2 2, .slice none 0 0, .int .i64 0]) (b5 : Blk W (g + 1 + 1 + 1 + 1 + 1) t5 #[.int .i64 0]) (b6 : Blk W (g + 1 + 1 + 1 + 1 + 1 + 1) t6 #[.int .i64 0, .slice (some ⟨g + 1 + 1 + 1 + 1 + 1, 0, none⟩) 1 1])
    (b7 : Blk W (g + 1 + 1 + 1 + 1 + 1 + 1 + 1) t7 #[.string ⟨#[115, 105, 110, 103, 108, 101]⟩, .int .i64 1, .slice (some ⟨g + 1, 0, none⟩) 2 2, .slice (some ⟨g + 1 + 1, 0, none⟩) 1 1, .slice (some ⟨g + 1 + 1 + 1 + 1, 0, none⟩) 1 1, .slice (some ⟨g + 1 + 1 + 1 + 1 + 1 + 1, 0, none⟩) 1 1, .int .i64 1, .int .i64 0]) :
    RRules W (some ⟨g + 1 + 1 + 1 + 1 + 1 + 1 + 1, 0, none⟩) lib1 := by
  have s1 : RStrs W (some ⟨g + 1, 0, none⟩) [⟨#[112]⟩, ⟨#[113]⟩] := strs_of b1 _ rfl (by intro x hx; simp at hx; rcases hx with rfl | rfl <;> decide) (by decide)
  have s2 : RStrs W (some ⟨g + 1 + 1, 0, none⟩) [⟨#[120]⟩] := strs_of b2 _ rfl (by intro x hx; simp at hx; subst hx; decide) (by decide)
  have s3 : RInts W (some ⟨g + 1 + 1 + 1, 0, none⟩) [0, 1] := ints_of b3 [0, 1] rfl (i64_lit rfl) (by decide)
  have s5 : RInts W (some ⟨g + 1 + 1 + 1 + 1 + 1, 0, none⟩) [0] := ints_of b5 [0] rfl (i64_lit rfl) (by decide)
  have s4 : RConds W (some ⟨g + 1 + 1 + 1 + 1, 0, none⟩) [⟨1, [0, 1], [], 0⟩] := RSl.one b4 _ _ rfl rfl ⟨_, _, _, _, rfl, s3, RInts.nil _ _, ⟨by decide, by decide⟩, ⟨by decide, by decide⟩⟩ (by decide)
  have s6 : RPrems W (some ⟨g + 1 + 1 + 1 + 1 + 1 + 1, 0, none⟩) [⟨0, [0]⟩] := RSl.one b6 _ _ rfl rfl ⟨_, _, rfl, s5, ⟨by decide, by decide⟩⟩ (by decide)
  exact RSl.one b7 _ _ rfl rfl ⟨⟨some ⟨g + 1, 0, none⟩, 2, some ⟨g + 1 + 1, 0, none⟩, 1, some ⟨g + 1 + 1 + 1 + 1, 0, none⟩, 1, some ⟨g + 1 + 1 + 1 + 1 + 1 + 1, 0, none⟩, 1⟩, rfl, s1, s2, s4, s6, ⟨by decide, by decide⟩, ⟨by decide, by decide⟩, ⟨by decide, by decide⟩, by decide⟩ (by decide)
theorem Blk.step {W : World} {g : Nat} {t t' : TypeId} {cs cs' : Array Value} (h : Blk W g t cs) : Blk (W.alloc (.cells cs' t')) g t cs := h.ext ((Ext.rfl' _).al _)
theorem Blk.here {W : World} {g : Nat} {t : TypeId} {cs : Array Value} (h : W.heap.size = g) : Blk (W.alloc (.cells cs t)) g t cs := by subst h; exact Blk.new _ _ _
set_option maxRecDepth 100000 in
set_option maxHeartbeats 4000000 in
theorem single33_ok (w : World) : Calls Tryz.prog 16 #[] w (RetLib w lib1) := by
  go_enter Tryz.func16, Tryz.ntmps16
  go_wp2_with fail
  refine bodyPost_ret (v := libW lib1 (some ⟨w.heap.size + 1 + 1 + 1 + 1 + 1 + 1 + 1, 0, none⟩) 1 none 0 0) (by simp [results, Tryz.results16, go_sem, lib1]) rfl ⟨_, _, rfl, ?_, ((((((((Ext.rfl' _).al _).al _).al _).al _).al _).al _).al _).al _⟩
  refine lib1_at (t1 := 9) (t2 := 9) (t3 := 3) (t4 := 50) (t5 := 3) (t6 := 53) (t7 := 41) ?_ ?_ ?_ ?_ ?_ ?_ ?_
  · exact (Blk.here (by simp)).step.step.step.step.step.step
  · exact (Blk.here (by simp)).step.step.step.step.step
  · exact (Blk.here (by simp)).step.step.step.step
  · exact (Blk.here (by simp)).step.step.step
  · exact (Blk.here (by simp)).step.step
  · exact (Blk.here (by simp)).step
  · exact Blk.here (by simp)
/-! ### Instances are compared. -/
theorem RInsts.instAt {w : World} {A : Option Addr} {l : List Inst} (h : RInsts w A l) (k : Nat) (hk : k < l.length) :
    ∃ ad p, A = some ad ∧ ad.block < w.heap.size ∧ RInstP w l[k] p ∧ w.cell? (ad.add (k * 3)) = some (.int .i64 l[k].rule) ∧ w.cell? ⟨(ad.add (k * 3)).block, (ad.add (k * 3)).off + 1, none⟩ = some (.slice p.a l[k].cells.length p.ac) ∧ w.cell? ⟨(ad.add (k * 3)).block, (ad.add (k * 3)).off + 2, none⟩ = some (.slice p.b l[k].symbols.length p.bc) := by
  obtain ⟨ad, e, hb, hc⟩ := h.2 (by omega)
  obtain ⟨vs, hn, ⟨p, rfl, h1⟩, hv⟩ := hc k hk
  have e0 : ∀ i, 0 < i → ad.add (k * 3 + i) = ⟨(ad.add (k * 3)).block, (ad.add (k * 3)).off + i, none⟩ := fun i hi => by rw [← add_of_add, add_pos _ _ hi]
  refine ⟨ad, p, e, hb, h1, by have := hv 0 (by simp); simpa using this, ?_, ?_⟩
  all_goals (rw [← e0 _ (by omega)]; exact hv _ (by simp))
theorem same13_x (w : World) (A B : Option Addr) (c d : Nat) (l m : List Int) (h : RInts w A l) (g : RInts w B m) (b : Bool) (hb : (l == m) = b) : Calls Tryz.prog 77 #[.slice A l.length c, .slice B m.length d] w fun e w' => e = .returned (.bool b) ∧ Ext w w' :=
  (same13_ok w A B c d l m h g).mono fun _ _ ⟨he, _, hw⟩ => ⟨by rw [he, hb], Ext.drw hw⟩
/-- Two instances are the same. -/
def sameI (i j : Inst) : Bool := (i.rule == j.rule) && ((i.cells == j.cells) && (i.symbols == j.symbols))
theorem sameI_refl (i : Inst) : sameI i i = true := by unfold sameI; simp
set_option maxRecDepth 100000 in
set_option maxHeartbeats 4000000 in
theorem sameInst_ok (w : World) (i j : Inst) (z y : IPtr) (hi : RInstP w i z) (hj : RInstP w j y) : Calls Tryz.prog 39 #[instW i z, instW j y] w fun e w' => e = .returned (.bool (sameI i j)) ∧ Ext w w' := by
  obtain ⟨n, ci, si⟩ := i
  obtain ⟨m, cj, sj⟩ := j
  obtain ⟨A, a, B, b⟩ := z
  obtain ⟨C, c, D, d⟩ := y
  have x0 := ((Ext.rfl' w).al (instC n ci si A a B b)).al (instC m cj sj C c D d)
  have h1 := hi.cells
  have h2 := hi.symbols
  have h3 := hj.cells
  have h4 := hj.symbols
  dsimp only at h1 h2 h3 h4
  clear hi hj
  have F : ∀ V, Ext ((w.alloc (instC n ci si A a B b)).alloc (instC m cj sj C c D d)) V → (V.cell? ⟨w.heap.size, 0, none⟩ = some (.int .i64 n) ∧ V.cell? ⟨w.heap.size, 1, none⟩ = some (.slice A ci.length a) ∧ V.cell? ⟨w.heap.size, 2, none⟩ = some (.slice B si.length b)) ∧
      V.cell? ⟨w.heap.size + 1, 0, none⟩ = some (.int .i64 m) ∧ V.cell? ⟨w.heap.size + 1, 1, none⟩ = some (.slice C cj.length c) ∧ V.cell? ⟨w.heap.size + 1, 2, none⟩ = some (.slice D sj.length d) := fun V hV => by
    have y1 := ((Ext.rfl' (w.alloc (instC n ci si A a B b))).al (instC m cj sj C c D d)).tr hV
    exact ⟨⟨boxE y1 rfl 0 _ rfl, boxE y1 rfl 1 _ rfl, boxE y1 rfl 2 _ rfl⟩, boxE hV (by simp) 0 _ rfl, boxE hV (by simp) 1 _ rfl, boxE hV (by simp) 2 _ rfl⟩
  have HF := hid F; clear F
  cases e1 : (n == m)
  · have Hr := hid (show sameI ⟨n, ci, si⟩ ⟨m, cj, sj⟩ = false by unfold sameI; dsimp only; rw [e1]; rfl)
    go_enter Tryz.func39, Tryz.ntmps39
    go_wp2_with fail
    go_ret
    exact ⟨ret_bool Hr.out.symm, x0⟩
  cases e2 : (ci == cj)
  · have Hr := hid (show sameI ⟨n, ci, si⟩ ⟨m, cj, sj⟩ = false by unfold sameI; dsimp only; rw [e1, e2]; rfl)
    have s1 := same13_x _ A C a c ci cj (h1.to x0) (h3.to x0) false e2
    have S1 := hid s1; clear s1 e2
    go_enter Tryz.func39, Tryz.ntmps39
    go_wp2_with (go_at_call 77; refine S1.out.mono ?_; rintro e w1 ⟨rfl, hb1⟩)
    go_ret
    exact ⟨ret_bool Hr.out.symm, x0.tr hb1⟩
  obtain ⟨b3, e3⟩ : ∃ b, (si == sj) = b := ⟨_, rfl⟩
  have Hr := hid (show sameI ⟨n, ci, si⟩ ⟨m, cj, sj⟩ = b3 by unfold sameI; dsimp only; rw [e1, e2, e3]; rfl)
  have s1 := same13_x _ A C a c ci cj (h1.to x0) (h3.to x0) true e2
  have s2 := fun W hW => same13_x W B D b d si sj ((h2.to x0).to hW) ((h4.to x0).to hW) b3 e3
  have S1 := hid s1; have S2 := hid s2; clear s1 e2 s2 e3
  go_enter Tryz.func39, Tryz.ntmps39
  go_wp2_with (first
    | (go_at_call 77; (with_reducible refine S1.out.mono ?_); rintro e w1 ⟨rfl, hb1⟩; obtain ⟨⟨f0, f1, f2⟩, f3, f4, f5⟩ := HF.out w1 hb1)
    | (go_at_call 77; (with_reducible refine (S2.out _ hb1).mono ?_); rintro e w2 ⟨rfl, hb2⟩))
  go_ret
  exact ⟨ret_bool Hr.out.symm, x0.tr (hb1.tr hb2)⟩
def instN (l : List Inst) (k : Nat) : Inst := l.getD k ⟨0, [], []⟩
theorem instN_eq {l : List Inst} {k : Nat} (h : k < l.length) : instN l k = l[k] := by simp [instN, h]
/-- Two lists of instances are the same. -/
def sameL (l m : List Inst) : Bool := !((l.length : Int) != (m.length : Int)) && (List.range l.length).all fun k => sameI (instN l k) (instN m k)
theorem sameL_refl (l : List Inst) : sameL l l = true := by
  unfold sameL
  simp only [bne_self_eq_false, Bool.not_false, Bool.true_and, List.all_eq_true]
  exact fun k _ => sameI_refl _
set_option maxRecDepth 100000 in
set_option maxHeartbeats 4000000 in
theorem sameAll_ok (w : World) (A B : Option Addr) (a b : Nat) (l m : List Inst) (h : RInsts w A l) (g : RInsts w B m) : Calls Tryz.prog 18 #[.slice A l.length a, .slice B m.length b] w fun e w' => e = .returned (.bool (sameL l m)) ∧ Ext w w' := by
  have hl := h.len
  have hm := g.len
  cases e1 : ((l.length : Int) != (m.length : Int))
  rotate_left
  · have Hr := hid (show sameL l m = false by unfold sameL; rw [e1]; rfl)
    have e2 : decide (l.length = m.length) = false := by
      have := e1; simp only [bne_iff_ne, ne_eq] at this; exact decide_eq_false (by omega)
    go_enter Tryz.func18, Tryz.ntmps18
    go_wp2_with fail
    go_ret
    exact ⟨ret_bool Hr.out.symm, Ext.rfl' _⟩
  have e2 : m.length = l.length := by have := bne_eq_false_iff_eq.1 e1; omega
  have Hr := hid (show sameL l m = (List.range l.length).all fun k => sameI (instN l k) (instN m k) by unfold sameL; rw [e1]; rfl)
  have E2 := hid e2
  rw [e2]
  clear e1 e2
  go_enter Tryz.func18, Tryz.ntmps18
  go_wp2_with fail
  go_loopw [5] (fun i wr => ∃ k : Nat, k ≤ l.length ∧ i = .int .i64 k ∧ Hid ((List.range k).all (fun k => sameI (instN l k) (instN m k)) = true) ∧ Ext w wr) (fun i _ => l.length - (intOf i).toNat)
  case atStart => exact ⟨0, Nat.zero_le _, rfl, rfl, Ext.rfl' _⟩
  case round =>
    obtain ⟨k, hk, rfl, hno, hx⟩ := hrel
    by_cases hlt : k < l.length
    · have hlt2 : k < m.length := by rw [E2.out]; exact hlt
      obtain ⟨ad, p, rfl, hab, hi, c0, c1, c2⟩ := (h.to hx).instAt k hlt
      obtain ⟨bd, y, rfl, hbb, hj, d0, d1, d2⟩ := (g.to hx).instAt k hlt2
      have F : ∀ V, Ext wr V → (V.cell? (ad.add (k * 3)) = some (.int .i64 l[k].rule) ∧ V.cell? ⟨(ad.add (k * 3)).block, (ad.add (k * 3)).off + 1, none⟩ = some (.slice p.a l[k].cells.length p.ac) ∧ V.cell? ⟨(ad.add (k * 3)).block, (ad.add (k * 3)).off + 2, none⟩ = some (.slice p.b l[k].symbols.length p.bc)) ∧
          V.cell? (bd.add (k * 3)) = some (.int .i64 m[k].rule) ∧ V.cell? ⟨(bd.add (k * 3)).block, (bd.add (k * 3)).off + 1, none⟩ = some (.slice y.a m[k].cells.length y.ac) ∧ V.cell? ⟨(bd.add (k * 3)).block, (bd.add (k * 3)).off + 2, none⟩ = some (.slice y.b m[k].symbols.length y.bc) := fun V hV =>
        ⟨⟨cellE hV c0 (by rw [block_of_add]; exact hab), cellE hV c1 (by rw [block_of_add]; exact hab), cellE hV c2 (by rw [block_of_add]; exact hab)⟩, cellE hV d0 (by rw [block_of_add]; exact hbb), cellE hV d1 (by rw [block_of_add]; exact hbb), cellE hV d2 (by rw [block_of_add]; exact hbb)⟩
      have HF := hid F; clear F c0 c1 c2 d0 d1 d2
      obtain ⟨r, hr⟩ : ∃ b, sameI (instN l k) (instN m k) = b := ⟨_, rfl⟩
      have sm : ∀ V, Ext wr V → Calls Tryz.prog 39 #[instW l[k] p, instW m[k] y] V fun e w' => e = .returned (.bool r) ∧ Ext V w' := fun V hV => by
        rw [← hr, instN_eq hlt, instN_eq hlt2]; exact sameInst_ok V l[k] m[k] p y (hi.to hV) (hj.to hV)
      have Sm := hid sm; have Hrr := hid hr; clear sm hr
      go_wp2_with fail
      (refine wp_region_sf (fun | 8 => some (SF.val (.bool r)) | _ => none) (by kernel_rfl) (by kernel_rfl) ?_); (repeat (first | (refine wpE_skipK ?_ ?_; (focus ((first | refine wanted_notF rfl rfl ?_ | refine wanted_notT rfl rfl ?_); (focus (simp only [List.getElem?_toArray, List.getElem?_cons_succ, List.getElem?_cons_zero]; done)))); intro K hK; go_simp; apply hK; clear hK K; (have hq9 : True := trivial); clear hq9) | (refine wpE_detN rfl rfl (fun K hK => ?_); apply Exists.intro; apply And.intro; (focus (rintro W ⟨hx, -⟩; obtain ⟨⟨f0, f1, f2⟩, f3, f4, f5⟩ := HF.out W hx; go_simp; all_goals rfl)); go_simp; apply hK; clear hK K; (have hq9 : True := trivial); clear hq9) | (refine wpE_detK rfl ?_ ?_; (focus (refine wanted_so rfl rfl ?_; (focus (simp only [List.getElem?_toArray, List.getElem?_cons_succ, List.getElem?_cons_zero]; done)))); intro K hK; apply Exists.intro; apply And.intro; (focus (rintro W ⟨hx, -⟩; obtain ⟨⟨f0, f1, f2⟩, f3, f4, f5⟩ := HF.out W hx; go_simp; all_goals rfl)); go_simp; apply hK; clear hK K; (have hq9 : True := trivial); clear hq9))); (first | refine wpE_newN _ rfl rfl ?_ ?_ | (refine wpE_newK _ rfl ?_ ?_ ?_; (focus (refine wanted_so rfl rfl ?_; (focus (simp only [List.getElem?_toArray, List.getElem?_cons_succ, List.getElem?_cons_zero]; done)))))); (focus (rintro W ⟨hW, -⟩; go_simp; exact ⟨Ext.rfl' _, (Sm.out W hW).mono fun e W' ⟨he, hb⟩ => ⟨_, he, hb, rfl⟩⟩)); (rintro _ ⟨_, rfl⟩ K hK); (go_simp; apply hK; clear hK K; (have hq9 : True := trivial); clear hq9); (repeat (first | (refine wpE_skipK ?_ ?_; (focus ((first | refine wanted_notF rfl rfl ?_ | refine wanted_notT rfl rfl ?_); (focus (simp only [List.getElem?_toArray, List.getElem?_cons_succ, List.getElem?_cons_zero]; done)))); intro K hK; go_simp; apply hK; clear hK K; (have hq9 : True := trivial); clear hq9) | (refine wpE_detN rfl rfl (fun K hK => ?_); apply Exists.intro; apply And.intro; (focus (rintro W ⟨hx, -⟩; obtain ⟨⟨f0, f1, f2⟩, f3, f4, f5⟩ := HF.out W hx; go_simp; all_goals rfl)); go_simp; apply hK; clear hK K; (have hq9 : True := trivial); clear hq9) | (refine wpE_detK rfl ?_ ?_; (focus (refine wanted_so rfl rfl ?_; (focus (simp only [List.getElem?_toArray, List.getElem?_cons_succ, List.getElem?_cons_zero]; done)))); intro K hK; apply Exists.intro; apply And.intro; (focus (rintro W ⟨hx, -⟩; obtain ⟨⟨f0, f1, f2⟩, f3, f4, f5⟩ := HF.out W hx; go_simp; all_goals rfl)); go_simp; apply hK; clear hK K; (have hq9 : True := trivial); clear hq9))); (apply wpE_nil); (rintro W ⟨hW, hG⟩); clear hG
      cases r
      · go_wp2_with fail
        go_ret
        exact ⟨ret_bool (by rw [Hr.out]; exact (rall_bad (p := fun k => sameI (instN l k) (instN m k)) hlt Hrr.out).symm), hx.tr hW⟩
      · go_wp2_with fail
        go_roundw
        case rel => exact ⟨k + 1, by omega, by go_num, rall_on hno Hrr.out, hx.tr hW⟩
        case measure => simp [intOf]; omega
    · go_wp2_with fail
      go_ret
      exact ⟨ret_bool (by rw [Hr.out]; exact (rall_end hno hk hlt).symm), hx⟩
end Go.Proofs.YtimkijmjbnmcbaaGreat
namespace Go.Proofs.YtimkijmjbnmcbaaGreat
open Go Go.RowKit
set_option maxRecDepth 100000 in
set_option maxHeartbeats 4000000 in
theorem few30_ok (w : World) (x : Rule) (p : RPtr) (h : RulePs w x p) : Calls Tryz.prog 19 #[ruleV x p] w fun e w' => SomeBool w e w' := by
  have x0 := (Ext.rfl' w).al (ruleO x p)
  have h1 := h.cells.len
  have h2 := h.letters.len
  have h3 := h.conds.len
  have h4 := h.premises.len
  have F : ∀ V, Ext (w.alloc (ruleO x p)) V → RuleBox V w.heap.size x p := fun V hV => ruleBox hV rfl
  have HF := hid F; clear F
  obtain ⟨pa, pac, pb, pbc, pc, pcc, pd, pdc⟩ := p
  obtain ⟨g0, g1, g2, g3, g4, g5, g6, g7⟩ := HF.out _ (Ext.rfl' _)
  dsimp only at g2 g3 g4 g5
  by_cases a1 : (10 : Int) < x.cells.length
  · go_enter Tryz.func19, Tryz.ntmps19
    go_wp2_with fail
    go_ret
    exact ⟨false, rfl, x0⟩
  by_cases a2 : (10 : Int) < x.letters.length
  · go_enter Tryz.func19, Tryz.ntmps19
    go_wp2_with fail
    go_ret
    exact ⟨false, rfl, x0⟩
  by_cases a3 : (10 : Int) < x.conds.length
  · go_enter Tryz.func19, Tryz.ntmps19
    go_wp2_with fail
    go_ret
    exact ⟨false, rfl, x0⟩
  by_cases a4 : (10 : Int) < x.premises.length
  · go_enter Tryz.func19, Tryz.ntmps19
    go_wp2_with fail
    go_ret
    exact ⟨false, rfl, x0⟩
  go_enter Tryz.func19, Tryz.ntmps19
  go_wp2_with fail
  clear g0 g1 g2 g3 g4 g5 g6 g7
  go_loopw [3] (fun i wr => ∃ k : Nat, k ≤ x.conds.length ∧ i = .int .i64 k ∧ Ext (w.alloc (ruleO x ⟨pa, pac, pb, pbc, pc, pcc, pd, pdc⟩)) wr) (fun i _ => x.conds.length - (intOf i).toNat)
  case atStart => exact ⟨0, Nat.zero_le _, rfl, Ext.rfl' _⟩
  case round =>
    obtain ⟨k, hk, rfl, hx⟩ := hrel
    obtain ⟨g0, g1, g2, g3, g4, g5, g6, g7⟩ := HF.out _ hx
    dsimp only at g2 g3 g4 g5
    by_cases hlt : k < x.conds.length
    · obtain ⟨ad, B, b, C, c, hA, hb, r1, r2, -, -, c0, c1, c2, c3⟩ := (h.conds.to (x0.tr hx)).condAt k hlt
      have hb1 := r1.len
      have hb2 := r2.len
      dsimp only at hA
      subst hA
      by_cases b1 : (10 : Int) < x.conds[k].cells.length
      · go_wp2_with fail
        go_ret
        exact ⟨false, rfl, x0.tr hx⟩
      by_cases b2 : (10 : Int) < x.conds[k].letters.length
      · go_wp2_with fail
        go_ret
        exact ⟨false, rfl, x0.tr hx⟩
      go_wp2_with fail
      go_roundw
      case rel => exact ⟨k + 1, by omega, by go_num, hx⟩
      case measure => simp [intOf]; omega
    · go_wp2_with fail
      clear g0 g1 g2 g3 g4 g5 g6 g7
      go_loopw [4] (fun i wv => ∃ k : Nat, k ≤ x.premises.length ∧ i = .int .i64 k ∧ Ext (w.alloc (ruleO x ⟨pa, pac, pb, pbc, pc, pcc, pd, pdc⟩)) wv) (fun i _ => x.premises.length - (intOf i).toNat)
      case atStart => exact ⟨0, Nat.zero_le _, rfl, hx⟩
      case round =>
        obtain ⟨j, hj, rfl, hxv⟩ := hrel
        obtain ⟨g0, g1, g2, g3, g4, g5, g6, g7⟩ := HF.out _ hxv
        dsimp only at g2 g3 g4 g5
        by_cases hlt2 : j < x.premises.length
        · obtain ⟨ad, B, b, hA, hb, r1, -, c0, c1⟩ := (h.premises.to (x0.tr hxv)).premAt j hlt2
          have hb1 := r1.len
          dsimp only at hA
          subst hA
          by_cases b1 : (10 : Int) < x.premises[j].letters.length
          · go_wp2_with fail
            go_ret
            exact ⟨false, rfl, x0.tr hxv⟩
          go_wp2_with fail
          go_roundw
          case rel => exact ⟨j + 1, by omega, by go_num, hxv⟩
          case measure => simp [intOf]; omega
        · go_wp2_with fail
          go_ret
          exact ⟨true, rfl, x0.tr hxv⟩
end Go.Proofs.YtimkijmjbnmcbaaGreat
namespace Go.Proofs.YtimkijmjbnmcbaaGreat
open Go Go.RowKit
/-- What it says that they are small. -/
def FewF (q : Problem) (l : List Rule) : Prop := q.cells ≤ 16 ∧ q.symbols ≤ 4 ∧ ∀ x ∈ l, x.cells.length ≤ 3 ∧ x.letters.length ≤ 2
def RetFew (w : World) (F : Prop) (e : Ending) (w' : World) : Prop := ∃ b, e = .returned (.bool b) ∧ (b = true → F) ∧ Ext w w'
theorem RetFew.no {w w' : World} {F : Prop} (h : Ext w w') : RetFew w F (.returned (.bool false)) w' := ⟨false, rfl, by simp, h⟩
def FewBox (W : World) (g : Nat) (q : Problem) (p : PPtr) (n : Nat) (A : Option Addr) (a : Nat) : Prop := ProbBox W g q p ∧ W.cell? ⟨g + 1, 0, none⟩ = some (.slice A n a)
set_option maxRecDepth 100000 in
set_option maxHeartbeats 8000000 in
theorem few33_ok (w : World) (q : Problem) (p : PPtr) (l : List Rule) (A : Option Addr) (a : Nat) (B : Option Addr) (bn bc : Nat) (hq : RProb w q p) (hl : RRules w A l) : Calls Tryz.prog 5 #[probV q p, libW l A a B bn bc] w (RetFew w (FewF q l)) := by
  have x0 := ((Ext.rfl' w).al (probO q p)).al (libO l A a B bn bc)
  have hv := hq.values.len
  have hn := hq.neighbors.len
  have hc := hq.cons.len
  have hll := hl.len
  have F : ∀ V, Ext ((w.alloc (probO q p)).alloc (libO l A a B bn bc)) V → FewBox V w.heap.size q p l.length A a := fun V hV =>
    ⟨probBox (((Ext.rfl' _).al _).tr hV) rfl, boxE hV (by simp) 0 _ rfl⟩
  have HF := hid F; clear F
  obtain ⟨pa, pac, pb, pbc, pc, pcc⟩ := p
  obtain ⟨⟨f0, f1, f2, f3, f4⟩, f5⟩ := HF.out _ (Ext.rfl' _)
  dsimp only at f2 f3 f4
  go_enter Tryz.func5, Tryz.ntmps5
  go_wp2_with fail
  clear f0 f1 f2 f3 f4 f5
  go_loopw [5, 6] (fun n i wr => ∃ (k m : Nat), k ≤ q.neighbors.length ∧ i = .int .i64 k ∧ n = .int .i64 m ∧ m ≤ 400 + 17592186044416 * 13 ∧ Ext ((w.alloc (probO q ⟨pa, pac, pb, pbc, pc, pcc⟩)).alloc (libO l A a B bn bc)) wr) (fun _ i _ => q.neighbors.length - (intOf i).toNat)
  case atStart => exact ⟨0, q.values.length + q.neighbors.length + q.cons.length + 10 * l.length, by omega, rfl, by go_num, by omega, Ext.rfl' _⟩
  case round =>
    obtain ⟨k, m, hk, rfl, rfl, hm, hx⟩ := hrel
    obtain ⟨⟨f0, f1, f2, f3, f4⟩, f5⟩ := HF.out _ hx
    dsimp only at f2 f3 f4
    by_cases hgo : k < q.neighbors.length ∧ (m : Int) < 400
    · obtain ⟨hlt, hm2⟩ := hgo
      obtain ⟨ad, Bi, ci, hpb, _, hci, hBi⟩ := (hq.neighbors.to (x0.tr hx)).rowAt k hlt
      have hBl := hBi.len
      dsimp only at hpb
      subst hpb
      go_wp2_with fail
      go_roundw
      case rel => exact ⟨k + 1, m + (row q.neighbors k).length, by omega, by go_num, by go_num, by omega, hx⟩
      case measure => simp [intOf]; omega
    clear f0 f1 f2 f3 f4 f5
    by_cases hlt : k < q.neighbors.length
    all_goals
      first
        | have hm2 : (400 : Int) ≤ m := by omega
        | skip
      obtain ⟨⟨f0, f1, f2, f3, f4⟩, f5⟩ := HF.out _ hx
      dsimp only at f2 f3 f4
      go_wp2_with fail
      clear hgo f0 f1 f2 f3 f4 f5
      go_loopw [5, 7] (fun n i wr => ∃ (k m : Nat), k ≤ q.cons.length ∧ i = .int .i64 k ∧ n = .int .i64 m ∧ m ≤ 400 + 17592186044416 * 13 ∧ Ext ((w.alloc (probO q ⟨pa, pac, pb, pbc, pc, pcc⟩)).alloc (libO l A a B bn bc)) wr) (fun _ i _ => q.cons.length - (intOf i).toNat)
      case atStart => exact ⟨0, m, by omega, rfl, rfl, by omega, hx⟩
      case round =>
        obtain ⟨k', m', hk', rfl, rfl, hm', hx⟩ := hrel
        obtain ⟨⟨f0, f1, f2, f3, f4⟩, f5⟩ := HF.out _ hx
        dsimp only at f2 f3 f4
        by_cases hgo : k' < q.cons.length ∧ (m' : Int) < 400
        · obtain ⟨hlt', hm2'⟩ := hgo
          obtain ⟨ad, B', b, C, cc, hpc, hlt0, hB, hC, hok, h0, h1, h2, h3, h4, h5, h6, h7, h8⟩ := (hq.cons.to (x0.tr hx)).consLoad k' hlt'
          have hBl := hB.len
          have hCl := hC.len
          dsimp only at hpc
          subst hpc
          clear h0 h2 h3 h4 h5 h7 h8 hok
          go_wp2_with fail
          go_quiet (fail)
          go_wp2_with fail
          go_roundw
          case rel => exact ⟨k' + 1, m' + (q.cons[k'].cells.length + q.cons[k'].runs.length), by omega, by go_num, by go_num, by omega, hx.drN _⟩
          case measure => simp [intOf]; omega
        clear f0 f1 f2 f3 f4 f5
        by_cases hlt' : k' < q.cons.length
        all_goals
          first
            | have hm2' : (400 : Int) ≤ m' := by omega
            | skip
          obtain ⟨⟨f0, f1, f2, f3, f4⟩, f5⟩ := HF.out _ hx
          dsimp only at f2 f3 f4
          go_wp2_with fail
          clear hgo f0 f1 f2 f3 f4 f5 hlt'
          try clear hm2'
          go_loopw [8] (fun i wr => ∃ k : Nat, k ≤ l.length ∧ i = .int .i64 k ∧ Hid (∀ (j : Nat) (h : j < l.length), j < k → l[j].cells.length ≤ 3 ∧ l[j].letters.length ≤ 2) ∧ Ext ((w.alloc (probO q ⟨pa, pac, pb, pbc, pc, pcc⟩)).alloc (libO l A a B bn bc)) wr) (fun i _ => l.length - (intOf i).toNat)
          case atStart => exact ⟨0, by omega, rfl, fun j h hj => absurd hj (by omega), hx⟩
          case round =>
            obtain ⟨i, hi, rfl, hall, hx⟩ := hrel
            obtain ⟨⟨f0, f1, f2, f3, f4⟩, f5⟩ := HF.out _ hx
            dsimp only at f2 f3 f4
            by_cases hgo : i < l.length ∧ (m' : Int) < 400
            · obtain ⟨hlt3, hm3⟩ := hgo
              first
                | (exfalso; omega)
                | skip
              all_goals
                obtain ⟨ad, p', rfl, hab, hps, g0, g1, g2, g3, g4, g5, g6, g7⟩ := (hl.to (x0.tr hx)).ruleLoad i hlt3
                have hL1 := hps.cells.len
                have hL2 := hps.letters.len
                by_cases c1 : (3 : Int) < l[i].cells.length
                · go_wp2_with fail
                  go_ret
                  exact RetFew.no (x0.tr hx)
                by_cases c2 : (2 : Int) < l[i].letters.length
                · go_wp2_with fail
                  go_ret
                  exact RetFew.no (x0.tr hx)
                go_wp2_with (go_at_call 19; refine (few30_ok _ l[i] p' hps).mono ?_; rintro e w3 ⟨b3, rfl, hb3⟩; cases b3)
                · go_ret
                  exact RetFew.no ((x0.tr hx).tr hb3)
                · go_roundw
                  case rel => exact ⟨i + 1, by omega, by go_num, fun j h hj => by
                    by_cases e : j = i
                    · subst e; exact ⟨by omega, by omega⟩
                    · exact hall.out j h (by omega), hx.tr hb3⟩
                  case measure => simp [intOf]; omega
            by_cases hlt3 : i < l.length
            · have hm3 : (400 : Int) ≤ m' := by omega
              go_wp2_with fail
              go_ret
              exact RetFew.no (x0.tr hx)
            by_cases hm4 : (m' : Int) < 400
            rotate_left
            · have hm3 : (400 : Int) ≤ m' := by omega
              go_wp2_with fail
              go_ret
              exact RetFew.no (x0.tr hx)
            first
              | (exfalso; omega)
              | skip
            all_goals
              by_cases d1 : q.cells ≤ 16
              rotate_left
              · have d2 : (16 : Int) < q.cells := by omega
                go_wp2_with fail
                go_ret
                exact RetFew.no (x0.tr hx)
              go_wp2_with fail
              go_ret
              refine ⟨_, rfl, fun h => ⟨d1, by simpa using h, fun x hxm => ?_⟩, x0.tr hx⟩
              obtain ⟨j, hj, rfl⟩ := List.getElem_of_mem hxm
              exact hall.out j hj (by omega)
end Go.Proofs.YtimkijmjbnmcbaaGreat
