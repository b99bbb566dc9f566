/- Contracts: Choices and Removes (the reference). -/
import Derived.Laws.AppendOwnNone
import Derived.Test.YtimkijmjbnmcbaaYmOm
import Derived.Test.YtimkijmjbnmcbaaYm19
namespace Go.Proofs.Ytimkijmjbnmcbaa
open Go Go.RowKit
/-! ### Removes. -/
set_option maxRecDepth 100000 in
set_option maxHeartbeats 4000000 in
theorem removes33_ok (w : World) (x : Rule) (r : RPtr) (P : Option Addr) (pn : Nat) (pos : List Int) (i : Inst) (z : IPtr) (hP : RInts w P pos) (hi : RInstP w i z) (h0 : 0 ≤ x.cell) (h1 : x.cell < (i.cells.length : Int)) (h2 : 0 ≤ num i.cells x.cell.toNat) (h3 : num i.cells x.cell.toNat < (pos.length : Int))
    (h4 : 0 ≤ x.letter) (h5 : x.letter < (i.symbols.length : Int)) (h6 : 0 ≤ num i.symbols x.letter.toNat) (h7 : num i.symbols x.letter.toNat < 16) :
    Calls Try.prog 47 #[ruleV x r, .slice P pos.length pn, instW i z] w fun e w' => e = .returned (.bool (remB pos x i.cells i.symbols)) ∧ Ext w w' := by
  obtain ⟨t, ci, si⟩ := i
  obtain ⟨C, cn, D, dn⟩ := z
  have x0 := ((Ext.rfl' w).al (ruleO x r)).al (instC t ci si C cn D dn)
  have hC := hi.cells
  have hD := hi.symbols
  dsimp only at hC hD h1 h2 h3 h5 h6 h7
  obtain ⟨cd, rfl, hcb, hcc, _⟩ := hC.num (by omega)
  have c1 := hcc x.cell.toNat (by omega)
  obtain ⟨sd, rfl, hsb, hsc, _⟩ := hD.num (by omega)
  have s1 := hsc x.letter.toNat (by omega)
  obtain ⟨pd, rfl, hpb, hpc, _⟩ := hP.num (by omega)
  have p1 := hpc (num ci x.cell.toNat).toNat (by omega)
  have hw : IntKind.u64.wrap (num si x.letter.toNat) = num si x.letter.toNat := by rw [IntKind.wrap_u64]; omega
  have hb := shr_bit (x := num pos (num ci x.cell.toNat).toNat) h6 (by omega)
  have F : ∀ V, Ext ((w.alloc (ruleO x r)).alloc (instC t ci si (some cd) cn (some sd) dn)) V → V.cell? ⟨w.heap.size, 6, none⟩ = some (.int .i64 x.cell) ∧ V.cell? ⟨w.heap.size, 7, none⟩ = some (.int .i64 x.letter) ∧ V.cell? ⟨w.heap.size + 1, 1, none⟩ = some (.slice (some cd) ci.length cn) ∧ V.cell? ⟨w.heap.size + 1, 2, none⟩ = some (.slice (some sd) si.length dn) ∧
      V.cell? (cd.add x.cell.toNat) = some (.int .i64 (num ci x.cell.toNat)) ∧ V.cell? (sd.add x.letter.toNat) = some (.int .i64 (num si x.letter.toNat)) ∧ V.cell? (pd.add (num ci x.cell.toNat).toNat) = some (.int .i64 (num pos (num ci x.cell.toNat).toNat)) := fun V hV => by
    have y1 := ((Ext.rfl' (w.alloc (ruleO x r))).al (instC t ci si (some cd) cn (some sd) dn)).tr hV
    exact ⟨boxE y1 rfl 6 _ rfl, boxE y1 rfl 7 _ rfl, boxE hV (by simp) 1 _ rfl, boxE hV (by simp) 2 _ rfl, cellE (x0.tr hV) c1 (by rw [block_of_add]; exact hcb), cellE (x0.tr hV) s1 (by rw [block_of_add]; exact hsb), cellE (x0.tr hV) p1 (by rw [block_of_add]; exact hpb)⟩
  have HF := hid F; clear F hcc hsc hpc c1 s1 p1
  show Calls Try.prog 47 _ w fun e w' => e = .returned (.bool (hasS (num pos (num ci x.cell.toNat).toNat) (num si x.letter.toNat).toNat)) ∧ Ext w w'
  rw [← hb]
  clear hb
  go_enter Try.func47, Try.ntmps47
  go_wp2_with fail
  (refine wp_region_sf (fun _ => none) (by kernel_rfl) (by kernel_rfl) ?_); (repeat (first | (refine wpE_skipK ?_ ?_; (focus ((first | refine wanted_notF rfl rfl ?_ | refine wanted_notT rfl rfl ?_); (focus (simp only [List.getElem?_toArray, List.getElem?_cons_succ, List.getElem?_cons_zero]; done)))); intro K hK; go_simp; apply hK; clear hK K; (have hq9 : True := trivial); clear hq9) | (refine wpE_detN rfl rfl (fun K hK => ?_); apply Exists.intro; apply And.intro; (focus (rintro W ⟨hx, -⟩; obtain ⟨f0, f1, f2, f3, f4, f5, f6⟩ := HF.out W hx; go_simp; all_goals rfl)); go_simp; apply hK; clear hK K; (have hq9 : True := trivial); clear hq9) | (refine wpE_detK rfl ?_ ?_; (focus (refine wanted_so rfl rfl ?_; (focus (simp only [List.getElem?_toArray, List.getElem?_cons_succ, List.getElem?_cons_zero]; done)))); intro K hK; apply Exists.intro; apply And.intro; (focus (rintro W ⟨hx, -⟩; obtain ⟨f0, f1, f2, f3, f4, f5, f6⟩ := HF.out W hx; go_simp; all_goals rfl)); go_simp; apply hK; clear hK K; (have hq9 : True := trivial); clear hq9))); (apply wpE_nil); (rintro W ⟨hW, hG⟩); clear hG
  go_wp2_with fail
  go_ret
  exact ⟨rfl, x0.tr hW⟩
/-! ### Choices. -/
theorem IntBlk.kbz {K : Nat → Prop} {W W' : World} {b : Nat} (h : IntBlk W b) (hk : KB K W W') (hb : K b) : IntBlk W' b := by
  obtain ⟨cs, r, hc⟩ := h
  exact ⟨cs, r, (hk.block b (Array.getElem?_eq_some_iff.1 hc).1 hb).trans hc⟩
/-- A list of integers; nil has no room. -/
def RRowZ (b0 : Nat) (w : World) (vs : List Value) (l : List Int) : Prop := ∃ A c, vs = [.slice A l.length c] ∧ RInts w A l ∧ (A = none → c = 0) ∧ l.length ≤ c ∧ ∀ ad, A = some ad → 0 < l.length → IntBlk w ad.block ∧ b0 ≤ ad.block
theorem RRowZ.keeps {b0 : Nat} : Keeps (RRowZ b0) := fun _ _ _ _ hb ⟨A, c, e, h, h2, h3, h4⟩ => ⟨A, c, e, h.to hb, h2, h3, fun ad e hp => ⟨(h4 ad e hp).1.kbz (KB.of_ext (K := fun _ => True) hb) trivial, (h4 ad e hp).2⟩⟩
def ERowZ (b0 : Nat) : ETy (List Int) where
  et := 22
  st := 23
  size := 1
  bytes := 24
  z := .slice none 0 0
  R := RRowZ b0
  under := by kernel_rfl
  info := by
    obtain ⟨i, h1, h2, h3, h4⟩ := info_parts (P := Try.prog) (e := 22) (z := .slice none 0 0) (size := 1) (bytes := 24) (by kernel_rfl)
    exact ⟨i, h1, h2, h3, h4⟩
  zsize := rfl
  pos := by decide
  len := by rintro w vs x ⟨A, c, rfl, -⟩; exact ⟨rfl, by simp [Value.oneCell']⟩
  keep := RRowZ.keeps
/-- 'append(s, t...)': t nil or not. -/
theorem app_src {ops : Array Oper} {rest : List Oper} {o : Oper} {a : Act} {Q : Exit → Act → World → Prop} {w : World} (w0 : World) (hx0 : Ext w0 w) (hgd : o.guard = none) (s x : Operand) (ho : o.op = Op.call { callee := Callee.builtin Builtin.append, args := #[s, x], argTypes := #[22, 22] })
    (A : Option Addr) (n c0 : Nat) (l : List Int) (hs : a.eval s = .slice A n c0) (hown : OwnI w w0.heap.size (.slice A n c0) l) (B : Option Addr) (m c : Nat) (hx : a.eval x = .slice B m c) (hz : B = none → c = 0) (news : List Int) (hm : news.length = m) (hr : RInts w B news) (hl : l.length + news.length ≤ 17592186044416)
    (h : ∀ (A' : Option Addr) (c' : Nat) (w' : World), OwnI w' w0.heap.size (.slice A' (n + m) c') (l ++ news) → Ext w0 w' → w.grownBy w' (Value.slice A n c0).ownBlock → wpList Try.prog ops Q rest (a.put o.dst (.slice A' (n + m) c')) w') :
    wpList Try.prog ops Q (o :: rest) a w := by
  obtain rfl := hown.lenEq
  cases B with
  | some ad => exact app_own w0 hx0 hgd s x ho A l.length c0 l hs rfl hown ad m c hx news hm (fun j hj => hr.cells j hj) hr.i64 hl (fun A' c' w' h1 h2 h3 => h A' c' w' (h1.as (by simp [hm]) rfl) h2 h3)
  | none =>
    have hn : news = [] := by
      cases news with
      | nil => rfl
      | cons y l => obtain ⟨ad, e, _⟩ := hr.2 (by simp); cases e
    subst hn
    obtain rfl : m = 0 := by simpa using hm.symm
    rw [hz rfl] at hx
    obtain ⟨i, hi1, hz1, hsz, hby⟩ := info_parts (P := Try.prog) (e := 3) (z := .int .i64 0) (size := 1) (bytes := 8) (by kernel_rfl)
    refine wpList_append_own_none hgd s x 22 ho w0.heap.size 3 i 1 (by kernel_rfl) hi1 _ l.length _ hs hown.row hx ?_
    exact h A c0 w (by rw [List.append_nil]; exact hown) hx0 (World.grownBy.refl w _)
/-- The first numbers tried. -/
def stepTo (l : List Int) (a : Nat) : List (List Int) := (List.range a).flatMap fun a : Nat => if memB l (a : Int) then [] else [l ++ [(a : Int)]]
theorem stepTo_succ (l : List Int) (a : Nat) : stepTo l (a + 1) = stepTo l a ++ if memB l (a : Int) then [] else [l ++ [(a : Int)]] := by
  unfold stepTo; rw [List.range_succ, List.flatMap_append]; simp
theorem stepTo_len (l : List Int) (a : Nat) : (stepTo l a).length ≤ a := by
  induction a with
  | zero => simp [stepTo]
  | succ a ih => rw [stepTo_succ, List.length_append]; split <;> simp <;> omega
def nextTo (n : Int) (cs : List (List Int)) (j : Nat) : List (List Int) := (cs.take j).flatMap (stepC n)
theorem nextTo_succ {n : Int} {cs : List (List Int)} {j : Nat} (h : j < cs.length) : nextTo n cs (j + 1) = nextTo n cs j ++ stepTo cs[j] n.toNat := by
  unfold nextTo; rw [List.take_succ_eq_append_getElem h, List.flatMap_append]; simp [stepC, stepTo]
theorem nextTo_len {n : Int} {cs : List (List Int)} : ∀ j, (nextTo n cs j).length ≤ j * n.toNat
  | 0 => by simp [nextTo]
  | j + 1 => by
    by_cases h : j < cs.length
    · rw [nextTo_succ h, List.length_append]
      have := nextTo_len (n := n) (cs := cs) j
      have := stepTo_len cs[j] n.toNat
      rw [Nat.succ_mul]; omega
    · have e : nextTo n cs (j + 1) = nextTo n cs j := by unfold nextTo; rw [List.take_of_length_le (by omega), List.take_of_length_le (by omega)]
      rw [e]
      have := nextTo_len (n := n) (cs := cs) j
      rw [Nat.succ_mul]; omega
theorem choicesR_len {n : Int} (hn : n ≤ 256) : ∀ k, (choicesR n k).length ≤ 256 ^ k
  | 0 => by simp [choicesR]
  | k + 1 => by
    have e : choicesR n (k + 1) = nextTo n (choicesR n k) (choicesR n k).length := by unfold nextTo; rw [List.take_length]; rfl
    rw [e]
    have h1 := nextTo_len (n := n) (cs := choicesR n k) (choicesR n k).length
    have h2 := choicesR_len hn k
    have h3 : (choicesR n k).length * n.toNat ≤ 256 ^ k * 256 := Nat.mul_le_mul h2 (by omega)
    rw [Nat.pow_succ]; omega
theorem choicesR_long {n : Int} {k : Nat} {x : List Int} (h : x ∈ choicesR n k) : x.length = k := by
  rw [← chR_true] at h; exact (chR_in List.prefix_rfl h).1
/-- A list of rows. -/
def RetRows (w : World) (l : List (List Int)) (e : Ending) (w' : World) : Prop := ∃ A c, e = .returned (.slice A l.length c) ∧ RSl 1 (RRowZ w.heap.size) w' A l ∧ (∀ ad, A = some ad → w.heap.size ≤ ad.block) ∧ Ext w w'
theorem rowzAt {w : World} {b0 : Nat} {A : Option Addr} {l : List (List Int)} (h : RSl 1 (RRowZ b0) w A l) (k : Nat) (hk : k < l.length) :
    ∃ ad B c, A = some ad ∧ ad.block < w.heap.size ∧ w.cell? (ad.add k) = some (.slice B l[k].length c) ∧ RInts w B l[k] ∧ (B = none → c = 0) ∧ l[k].length ≤ c ∧ ∀ ad, B = some ad → 0 < l[k].length → IntBlk w ad.block ∧ b0 ≤ ad.block := by
  obtain ⟨ad, e, hb, hc⟩ := h.2 (by omega)
  obtain ⟨vs, _, ⟨B, c, rfl, hi, hz⟩, hv⟩ := hc k hk
  have := hv 0 (by simp)
  exact ⟨ad, B, c, e, hb, by simpa using this, hi, hz⟩
def midTo (n : Int) (cs : List (List Int)) (j a : Nat) : List (List Int) := nextTo n cs j ++ stepTo (row cs j) a
theorem midTo_zero (n : Int) (cs : List (List Int)) (j : Nat) : midTo n cs j 0 = nextTo n cs j := by simp [midTo, stepTo]
theorem midTo_no {n : Int} {cs : List (List Int)} {j a : Nat} (h : memB (row cs j) (a : Int) = true) : midTo n cs j (a + 1) = midTo n cs j a := by unfold midTo; rw [stepTo_succ, h]; simp
theorem midTo_yes {n : Int} {cs : List (List Int)} {j a : Nat} (h : memB (row cs j) (a : Int) = false) : midTo n cs j (a + 1) = midTo n cs j a ++ [row cs j ++ [(a : Int)]] := by unfold midTo; rw [stepTo_succ, h]; simp
theorem midTo_end {n : Int} {cs : List (List Int)} {j : Nat} (h : j < cs.length) : midTo n cs j n.toNat = nextTo n cs (j + 1) := by unfold midTo; rw [nextTo_succ h, row_eq h]
theorem midTo_len {n : Int} (hn : n ≤ 256) {cs : List (List Int)} (hc : cs.length ≤ 16777216) {j a : Nat} (hj : j < cs.length) (ha : a < n.toNat) : (midTo n cs j a).length < 5000000000 := by
  unfold midTo
  rw [List.length_append]
  have h1 := nextTo_len (n := n) (cs := cs) j
  have h2 := stepTo_len (row cs j) a
  have h3 : j * n.toNat ≤ 16777216 * 256 := Nat.mul_le_mul (by omega) (by omega)
  omega
theorem rowLie {b0 : Nat} {O : TSet} {w : World} {A : Option Addr} {n c : Nat} {l : List Int} (hn : n = l.length) (h : RInts w A l) (hz : A = none → c = 0) (hc : l.length ≤ c) (hb : ∀ ad, A = some ad → 0 < l.length → IntBlk w ad.block ∧ b0 ≤ ad.block) (ha : ∀ ad, A = some ad → 0 < l.length → ¬ O ad.block) : LieOff (ERowZ b0) O w [[.slice A n c]] [l] := by
  subst hn
  exact fun _ hk => ⟨⟨A, c, rfl, h.kb hk ha, hz, hc, fun ad e hp => ⟨(hb ad e hp).1.kbz hk (ha ad e hp), (hb ad e hp).2⟩⟩, trivial⟩
/-- The new row, ahead of its append. -/
theorem newRow {b0 : Nat} {wu w2 : World} {A2 Y : Option Addr} {n yc : Nat} {l : List Int} (hb0 : b0 ≤ wu.heap.size) (hA : ∀ k, blockOf A2 = some k → k < wu.heap.size) (hY : OwnI w2 wu.heap.size (.slice Y n yc) l) (hp : 0 < n) :
    LieOff (ERowZ b0) (offOf noT A2) (w2.alloc (.cells #[.slice Y n yc] 22)) [[.slice Y n yc]] [l] ∧
    ∀ j u, [[Value.slice Y n yc]].flatten[j]? = some u → (w2.alloc (.cells #[.slice Y n yc] 22)).cell? ((⟨w2.heap.size, 0, none⟩ : Addr).add j) = some u := by
  have hn := hY.lenEq
  obtain ⟨g, hg, h1, h2⟩ := hY.some_ hp
  refine ⟨rowLie hn (hY.ints.to ((Ext.rfl' _).al _)) (fun e => by rw [e] at hg; cases hg) (by rw [← hn]; exact hY.cap) (fun ad e _ => ⟨(hY.intBlk ad e).kbz (KB.of_ext (K := fun _ => True) ((Ext.rfl' _).al _)) trivial, by rw [hg] at e; injection e with e; subst e; show b0 ≤ g; omega⟩) (fun ad e _ => ?_), fun j u hu => ?_⟩
  · rintro (h | h)
    · exact h
    · rw [hg] at e
      injection e with e
      subst e
      have := hA _ h
      dsimp only at this
      omega
  · match j, hu with
    | 0, hu =>
      have := (Blk.new w2 22 #[.slice Y n yc]).cell 0
      simp at hu
      subst hu
      exact this
    | j + 1, hu => simp at hu
set_option maxRecDepth 100000 in
set_option maxHeartbeats 8000000 in
theorem choices33_ok (w : World) (n : Int) (k : Nat) (hn : n ≤ 256) (hk : k ≤ 4) : Calls Try.prog 46 #[.int .i64 n, .int .i64 (k : Int)] w (RetRows w (choicesR n k)) := by
  have b0 := Blk.new w 22 #[.slice none 0 0]
  have r0 : RSl 1 (RRowZ w.heap.size) (w.alloc (.cells #[.slice none 0 0] 22)) (some ⟨w.heap.size, 0, none⟩) (choicesR n 0) := RSl.one b0 _ _ rfl rfl ⟨none, 0, rfl, RInts.nil _ _, fun _ => rfl, Nat.le_refl _, fun _ e => by cases e⟩ (by decide)
  have R0 := hid r0; clear r0 b0
  go_enter Try.func46, Try.ntmps46
  go_wp2_with fail
  go_loopw [5, 6, 7, 8, 9, 10] (fun o i _ _ _ _ wr => ∃ (m : Nat) (A : Option Addr) (c : Nat), m ≤ k ∧ i = .int .i64 m ∧ o = .slice A (choicesR n m).length c ∧ RSl 1 (RRowZ w.heap.size) wr A (choicesR n m) ∧ (∀ ad, A = some ad → w.heap.size ≤ ad.block) ∧ Ext w wr) (fun _ i _ _ _ _ _ => k - (intOf i).toNat)
  case atStart => exact ⟨0, _, 1, Nat.zero_le _, rfl, rfl, R0.out, fun ad e => by injection e with e; subst e; exact Nat.le_refl _, (Ext.rfl' _).al _⟩
  case round =>
    clear R0
    obtain ⟨m, A, c, hm, rfl, rfl, hL, hLA, hx⟩ := hrel
    obtain ⟨wo, rfl⟩ : ∃ wo : World, wo = wr := ⟨_, rfl⟩
    by_cases hlt : m < k
    · have hlen : (choicesR n m).length ≤ 16777216 := Nat.le_trans (choicesR_len hn m) (Nat.le_trans (Nat.pow_le_pow_right (by decide) (show m ≤ 3 by omega)) (by decide))
      have e0 : choicesR n (m + 1) = nextTo n (choicesR n m) (choicesR n m).length := by unfold nextTo; rw [List.take_length]; rfl
      have hlong : ∀ j, j < (choicesR n m).length → (row (choicesR n m) j).length < 5 := fun j hj => by rw [row_eq hj, choicesR_long (List.getElem_mem hj)]; omega
      have E0 := hid e0; have Hlong := hid hlong; clear e0 hlong
      generalize choicesR n m = cs at *
      go_wp2_with fail
      go_loopw [7, 8, 9, 10] (fun nx j _ _ wv => ∃ (jj : Nat) (A' : Option Addr) (c' : Nat), jj ≤ cs.length ∧ j = .int .i64 jj ∧ nx = .slice A' (nextTo n cs jj).length c' ∧ OwnG (ERowZ w.heap.size) wv wo.heap.size noT A' (nextTo n cs jj).length c' (nextTo n cs jj) ∧ Ext wo wv) (fun _ j _ _ _ => cs.length - (intOf j).toNat)
      case atStart => exact ⟨0, none, 0, Nat.zero_le _, rfl, by simp [nextTo], (OwnG.nil (ERowZ w.heap.size) _ _ _).as (by simp [nextTo]) (by simp [nextTo]), Ext.rfl' _⟩
      case round =>
        obtain ⟨jj, A1, c1, hj, rfl, rfl, ho1, hx1⟩ := hrel
        by_cases hlt2 : jj < cs.length
        · go_wp2_with fail
          go_loopw [7, 9, 10] (fun nx a _ wu => ∃ (aa : Nat) (A' : Option Addr) (c' : Nat), aa ≤ n.toNat ∧ a = .int .i64 aa ∧ nx = .slice A' (midTo n cs jj aa).length c' ∧ OwnG (ERowZ w.heap.size) wu wo.heap.size noT A' (midTo n cs jj aa).length c' (midTo n cs jj aa) ∧ Ext wo wu) (fun _ a _ _ => n.toNat - (intOf a).toNat)
          case atStart => exact ⟨0, A1, c1, Nat.zero_le _, rfl, by rw [midTo_zero], ho1.as (by rw [midTo_zero]) (by rw [midTo_zero]), hx1⟩
          case round =>
            clear ho1 hx1
            obtain ⟨aa, A2, c2, ha, rfl, rfl, ho, hx2⟩ := hrel
            obtain ⟨wu, rfl⟩ : ∃ wu : World, wu = wr := ⟨_, rfl⟩
            by_cases hlt3 : (aa : Int) < n
            · obtain ⟨ad, B, b, rfl, hab, hcb, hB, hz, hbc, -⟩ := rowzAt (hL.to RRowZ.keeps hx2) jj hlt2
              rw [← row_eq hlt2] at hcb hB hbc
              have hBl := Hlong.out jj hlt2
              cases e1 : memB (row cs jj) (aa : Int)
              · have Hm := hid (midTo_yes (n := n) e1)
                have hml := midTo_len hn hlen hlt2 (show aa < n.toNat by omega)
                go_upto_region 13 with (go_at_call 62; refine (in13_m _ B b _ hB _).mono ?_; rintro e w1 ⟨rfl, rfl⟩)
                go_upto_region 15 with (at_builtin; refine app_src wu (Ext.rfl' _) rfl _ _ rfl none 0 0 [] rfl (OwnI.nil _ _) B (row cs jj).length b rfl hz (row cs jj) rfl hB (by simp; omega) ?_; intro X xc w1 hX hx3 _)
                rw [List.nil_append, Nat.zero_add] at hX
                have hx4 := hx2.tr hx3
                have hoN := ho.to hx3
                clear hcb
                go_wp2_with (first
                  | (at_builtin; refine app_one wu hx3 rfl _ _ rfl X (row cs jj).length xc (row cs jj) rfl hX _ (aa : Int) rfl ⟨by omega, by omega⟩ (by omega) ?_; intro Y yc w2 hY hx5 _; have hnew := newRow (b0 := w.heap.size) (A2 := A2) (by have := hx.size; have := hx2.size; omega) (fun g hg => (ho.lt g hg).2) hY (Nat.succ_pos _))
                  | (at_builtin; refine app_g (ERowZ w.heap.size) wo.heap.size (by have := hx2.size; have := hx5.size; simp; omega) rfl _ _ rfl noT A2 (midTo n cs jj aa).length c2 (midTo n cs jj aa) rfl ((ho.to hx5).to ((Ext.rfl' _).al _)) ⟨w2.heap.size, 0, none⟩ 1 1 rfl [row cs jj ++ [(aa : Int)]] [[.slice Y ((row cs jj).length + 1) yc]] rfl hnew.1 hnew.2 (by show (_ + 1) * 24 ≤ _; omega) (by simp [maxLen]; omega) ?_; intro Z zc w3 hg3))
                have hx6 : Ext wo w3 := OwnG.ext ((hx2.tr hx5).al _) ((ho.to hx5).to ((Ext.rfl' _).al _)) hg3.grown
                have hown3 := hg3.own
                go_roundw
                case rel => exact ⟨aa + 1, Z, zc, by omega, by go_num, by rw [Hm.out, List.length_append]; rfl, by have h9 := hown3; rw [← Hm.out] at h9; exact h9.as (by rw [Hm.out, List.length_append]; rfl) rfl, hx6⟩
                case measure => simp [intOf]; omega
              · have Hm := hid (midTo_no (n := n) e1)
                go_wp2_with (go_at_call 62; refine (in13_m _ B b _ hB _).mono ?_; rintro e w1 ⟨rfl, rfl⟩)
                go_roundw
                case rel => exact ⟨aa + 1, A2, c2, by omega, by go_num, by rw [Hm.out], ho.as (by rw [Hm.out]) (by rw [Hm.out]), hx2⟩
                case measure => simp [intOf]; omega
            · have ea : aa = n.toNat := by omega
              have Hm := hid (midTo_end (n := n) hlt2)
              subst ea
              rw [Hm.out] at ho
              rw [Hm.out]
              go_wp2_with fail
              go_roundw
              case rel => exact ⟨jj + 1, A2, c2, by omega, by go_num, rfl, ho, hx2⟩
              case measure => simp [intOf]; omega
        · have ej : jj = cs.length := by omega
          subst ej
          have hr := ho1.rsl (E := ERowZ w.heap.size) (by have := nextTo_len (n := n) (cs := cs) cs.length; have h3 : cs.length * n.toNat ≤ 16777216 * 256 := Nat.mul_le_mul hlen (by omega); show _ * 8 ≤ _; omega)
          rw [← E0.out] at hr
          rw [← E0.out]
          go_wp2_with fail
          go_roundw
          case rel => exact ⟨m + 1, A1, c1, by omega, by go_num, rfl, hr, fun ad e => by subst e; have := (ho1.lt ad.block rfl).1; have := hx.size; omega, hx.tr hx1⟩
          case measure => simp [intOf]; omega
    · obtain rfl : m = k := by omega
      go_wp2_with fail
      go_ret
      exact ⟨A, c, rfl, hL, hLA, hx⟩
end Go.Proofs.Ytimkijmjbnmcbaa
