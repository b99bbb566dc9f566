/- choices: the iterator. -/
import Derived.Maps.RangeWalk
import Derived.Test.YtimkijmjbnmcbaaGreatYm15
import Derived.Test.YtimkijmjbnmcbaaGreatYm20
namespace Go.Proofs.YtimkijmjbnmcbaaGreat
open Go Go.RowKit Go.Shelf
attribute [local go_sem] Oper.semAt_some
/-- An operation that yields in whatever world, its slot told. -/
theorem take_at {F : Fence} {nn : Nat} {P : Program} {md : Region.Mode} {ops : Array Oper} {Q : Exit → Act → World → Prop} {i : Nat} {oi : Oper} {d : Nat} {v : Value} {fuel : Nat} {listed : Array Bool} {t : Array Value} {ds : List Deferred} {w : World} (hro : F.round = none) (hi : ops[i]? = some oi) (hd : oi.dst = some d)
    (hs : Region.noSelect ops = true) (hf : Region.free md ops listed i = true) (hr : (Region.ready md ops listed).contains i = true)
    (hQ : ∀ c a w, Q (.panic c) (a.put oi.dst v) w → Q (.panic c) a w) (hy : YieldsFenced P ops oi v { tmps := t, defers := ds })
    (h : wpAnyIn F nn P md ops Q fuel (listed.setIfInBounds i true) { tmps := t.setIfInBounds d v, defers := ds } w) : wpAnyIn F nn P md ops Q (fuel + 1) listed { tmps := t, defers := ds } w := by
  refine wpAnyIn_take hro hi hs hf hr hQ hy ?_
  rw [hd]; exact h
/-- A list, and where it lies. -/
abbrev LA := List Int × Option Addr × Nat
abbrev encLA (x : LA) : Array Value := #[.slice x.2.1 x.1.length x.2.2]
/-- What is handed over lies off the iterator's blocks. -/
def RvL (Bs : Nat) (T : TSet) (W : World) (x : LA) : Prop := RInts W x.2.1 x.1 ∧ x.1.length ≤ x.2.2 ∧ ∀ ad, x.2.1 = some ad → ¬ T ad.block ∧ Bs ≤ ad.block ∧ ad.block < W.heap.size ∧ 0 < x.1.length ∧ IntBlk W ad.block
/-- What a call of the iterator's own function keeps. -/
structure Step (Pr : TSet) (A : Option Addr) (T T' : TSet) (W W' : World) : Prop where
  kb : KB (fun b => Pr b ∨ (T b ∧ blockOf A ≠ some b)) W W'
  up : ∀ b, T b → T' b
  new : ∀ b, T' b → T b ∨ (W.heap.size ≤ b ∧ b < W'.heap.size)
theorem Step.refl (Pr : TSet) (A : Option Addr) (T : TSet) (W : World) : Step Pr A T T W W := ⟨KB.refl _ _, fun _ h => h, fun _ h => .inl h⟩
theorem Step.tr {Pr : TSet} {A : Option Addr} {T T1 T2 : TSet} {a b c : World} (h : Step Pr A T T1 a b) (k : Step Pr A T1 T2 b c) : Step Pr A T T2 a c :=
  ⟨h.kb.seq k.kb fun i _ hi => hi.imp id (fun ⟨h1, h2⟩ => ⟨h.up i h1, h2⟩), fun i hi => k.up i (h.up i hi), fun i hi => by
    rcases k.new i hi with h1 | ⟨h1, h2⟩
    · rcases h.new i h1 with h3 | ⟨h3, h4⟩
      · exact .inl h3
      · exact .inr ⟨h3, Nat.lt_of_lt_of_le h4 k.kb.size⟩
    · exact .inr ⟨Nat.le_trans h.kb.size h1, h2⟩⟩
theorem Step.ext {Pr : TSet} {A : Option Addr} {T : TSet} {W W' : World} (h : Ext W W') : Step Pr A T T W W' := ⟨KB.of_ext h, fun _ h => h, fun _ h => .inl h⟩
/-- What choices' function finds at each call. -/
structure ChW (w : World) (Pr : TSet) (Bs lp gy ge : Nat) (caps : Array Value) (T : TSet) (W : World) : Prop where
  kb : KB Pr w W
  base : Bs ≤ W.heap.size
  t : ∀ b, T b → Bs ≤ b ∧ b < W.heap.size
  ty : T gy
  te : T ge
  cy : W.cell? ⟨gy, 0, none⟩ = some (.func (.yield lp) #[] #[])
  ce : W.cell? ⟨ge, 0, none⟩ = some (.func (.func 68) #[] caps)
theorem own_none {w : World} {base : Nat} {T : TSet} {n c : Nat} {l : List Int} (h : OwnG EInt w base T none n c l) : c = 0 := by
  obtain ⟨hn, vss, h1, h2⟩ := h
  rcases h2.2 with ⟨e, h0⟩ | ⟨g, cap, cur, e, _⟩
  · injection e
  · injection e with e1; cases e1
/-- What a call of choices' own function answers. -/
def ExtP (Pr : TSet) (Bs : Nat) (n : Int) (may : List Int → Bool) (k : Nat) (J Jx : List LA → TSet → World → Prop) (d : Nat) (l : List Int) (pre : List LA) (T : TSet) (W : World) (A : Option Addr) (c : Nat) (e : Ending) (W' : World) : Prop :=
  (e = .returned (.bool true) ∧ ∃ ys T', ys.map (·.1) = chR n may d l ∧ J (pre ++ ys) T' W' ∧ Step Pr A T T' W W' ∧ OwnG EInt W' Bs noT A l.length c l) ∨
  (e = .returned (.bool false) ∧ ∃ ys T', (pre ++ ys).map (·.1) <+: chR n may k [] ∧ Jx (pre ++ ys) T' W')
/-- An append within a drawn region in a round: it runs as told. -/
theorem app_up {F : Fence} {nn : Nat} {P : Program} {ops : Array Oper} {o : Oper} {t : Array Value} {ds : List Deferred} {w w' : World} {K : Act → World → Prop} {Q : Exit → Act → World → Prop} (s x : Operand) (t1 t2 : TypeId) (d j : Nat) (v u r : Value) (ho : o.op = Op.call { callee := Callee.builtin Builtin.append, args := #[s, x], argTypes := #[t1, t2] }) (hd : o.dst = some d)
    {sl : Nat} (hg : o.guard = some (j, true)) (hsl : (ops[j]?).bind (·.dst) = some sl) (hv : t[sl]? = some (.bool true))
    (hs : Act.eval { tmps := t, defers := ds } s = v) (hx : Act.eval { tmps := t, defers := ds } x = u) (hr : (Builtin.append_ #[t1, t2] o.type #[v, u]).run P w = .ok r w') (h : K { tmps := t.setIfInBounds d r, defers := ds } w') :
    if Region.wanted o (yielded ops t) = true then Oper.wpIn F nn P o { tmps := t, defers := ds } w K Q else (∀ f, o.about P w (Act.eval { tmps := t, defers := ds }) = some f → F.fn f) ∧ K (Act.put { tmps := t, defers := ds } o.dst undef) w := by
  rw [if_pos (wanted_so hg hsl hv)]
  unfold Oper.wpIn
  refine ⟨?_, ?_⟩
  · simp [Oper.about, ho, resolve, Target.leads, Sem.run_pure]
  · rw [Oper.semAt_plain F _ _ (by rw [ho]; exact fun c h => by cases h)]
    unfold execOp
    simp only [ho, resolve, invoke, builtin, Sem.run_bind, Sem.run_pure, Result.andThen_ok, List.map_toArray, List.map_cons, List.map_nil, hs, hx, hr]
    show K (Act.put { tmps := t, defers := ds } o.dst r) w'
    rw [hd]; exact h
/-- Ahead of the recursive call and behind it: one number has been appended. -/
theorem grow_step {w W wr V1 V2 : World} {Pr : TSet} {Bs lp gy ge : Nat} {caps : Array Value} {T T1 : TSet} {A A' : Option Addr} {n c c' : Nat} {l : List Int} {x : Int} {J : List LA → TSet → World → Prop} {p : List LA} (hJ : Stays J)
    (hPB : ∀ b, Pr b → b < Bs) (hw : ChW w Pr Bs lp gy ge caps T W) (hst : Step Pr A T T1 W wr) (xV1 : Ext wr V1) (hj : J p T1 wr) (hown1 : OwnG EInt wr Bs noT A n c l) (hA : ∀ b, blockOf A = some b → T b ∧ b ≠ gy ∧ b ≠ ge)
    (hc : (A' = A ∧ c' = c ∧ (∃ b, blockOf A = some b) ∧ V1.grownBy V2 (blockOf A)) ∨ (A' = some ⟨V1.heap.size, 0, none⟩ ∧ V1.heap.size < V2.heap.size ∧ Ext V1 V2)) :
    ∃ T2, J p T2 V2 ∧ ChW w Pr Bs lp gy ge caps T2 V2 ∧ (∀ b, blockOf A' = some b → T2 b ∧ b ≠ gy ∧ b ≠ ge) ∧
      (∀ T3 W3, Step Pr A' T2 T3 V2 W3 → OwnG EInt W3 Bs noT A' (n + 1) c' (l ++ [x]) → Step Pr A T T3 W W3 ∧ OwnG EInt W3 Bs noT A n c l) := by
  have z1 := hst.kb.size
  have z2 := xV1.size
  have hTlt : ∀ b, T1 b → Bs ≤ b ∧ b < wr.heap.size := fun b hb => by
    rcases hst.new b hb with h | h
    · have := hw.t b h; omega
    · have := hw.base; omega
  have hPA : ∀ b, Pr b → blockOf A ≠ some b := fun b hb e => by
    have h1 := hPB b hb
    have h2 := (hw.t b (hA b e).1).1
    omega
  have kpr : KB Pr w wr := hw.kb.tr (hst.kb.mono fun _ _ h => .inl h)
  have ky : blockOf A ≠ some gy := fun e => (hA gy e).2.1 rfl
  have ke : blockOf A ≠ some ge := fun e => (hA ge e).2.2 rfl
  have cy1 := hst.kb.cell (p := ⟨gy, 0, none⟩) (.inr ⟨hw.ty, ky⟩) hw.cy
  have ce1 := hst.kb.cell (p := ⟨ge, 0, none⟩) (.inr ⟨hw.te, ke⟩) hw.ce
  rcases hc with ⟨rfl, rfl, ⟨b0, hb0⟩, hg⟩ | ⟨rfl, hlt, hx⟩
  · have kA : KB (fun b => blockOf A' ≠ some b) wr V2 := (KB.of_ext xV1).tr (KB.of_grown hg fun k hk h => h hk)
    refine ⟨T1, hJ _ _ _ _ _ hj (kA.mono fun k _ hn e => hn (hst.up k (hA k e).1)) (fun _ h => h) (fun _ h => .inl h), ⟨kpr.tr (kA.mono fun k _ h => hPA k h), Nat.le_trans (Nat.le_trans hw.base z1) kA.size, fun b hb => ⟨(hTlt b hb).1, Nat.lt_of_lt_of_le (hTlt b hb).2 kA.size⟩, hst.up _ hw.ty, hst.up _ hw.te, kA.cell (p := ⟨gy, 0, none⟩) ky cy1, kA.cell (p := ⟨ge, 0, none⟩) ke ce1⟩, fun b hb => ⟨hst.up b (hA b hb).1, (hA b hb).2⟩, fun T3 W3 hs ho => ⟨hst.tr (Step.tr ⟨kA.mono fun k _ h => ?_, fun _ h => h, fun _ h => .inl h⟩ hs), ho.less⟩⟩
    exact h.elim (hPA k) And.right
  · have k2 : Ext wr V2 := xV1.tr hx
    have z3 := k2.size
    refine ⟨fun b => T1 b ∨ b = V1.heap.size, hJ _ _ _ _ _ hj (KB.of_ext k2) (fun _ h => .inl h) (fun b h => h.imp id fun e => by omega), ⟨kpr.tr (KB.of_ext k2), Nat.le_trans (Nat.le_trans hw.base z1) z3, fun b hb => ?_, .inl (hst.up _ hw.ty), .inl (hst.up _ hw.te), cellE k2 cy1 (hTlt gy (hst.up _ hw.ty)).2, cellE k2 ce1 (hTlt ge (hst.up _ hw.te)).2⟩, fun b hb => ?_, fun T3 W3 hs ho => ⟨⟨?_, ?_, ?_⟩, ?_⟩⟩
    · rcases hb with hb | rfl
      · have := hTlt b hb; omega
      · have := hw.base; omega
    · have e : b = V1.heap.size := by simpa using hb.symm
      subst e
      have h1 := hTlt gy (hst.up _ hw.ty)
      have h2 := hTlt ge (hst.up _ hw.te)
      exact ⟨.inr rfl, by omega, by omega⟩
    · refine hst.kb.seq (K' := fun b => Pr b ∨ (T1 b ∧ blockOf A ≠ some b)) ?_ (fun i _ h => h.imp id fun ⟨h1, h2⟩ => ⟨hst.up i h1, h2⟩)
      refine (KB.of_ext (K := fun b => Pr b ∨ (T1 b ∧ blockOf A ≠ some b)) k2).seq hs.kb fun i hi h => h.imp id fun ⟨h1, _⟩ => ⟨.inl h1, fun e => ?_⟩
      have e : V1.heap.size = i := by simpa using e
      omega
    · exact fun b hb => hs.up b (.inl (hst.up b hb))
    · intro b hb
      have z4 := hs.kb.size
      rcases hs.new b hb with (h | h) | h
      · exact (hst.new b h).imp id fun h => by omega
      · right; omega
      · right; omega
    · refine (hown1.to k2).kbInt hs.kb (fun k hk => .inr ⟨.inl (hst.up k (hA k hk).1), fun e => ?_⟩) _
      have e : V1.heap.size = k := by simpa using e
      have := (hown1.lt k hk).2
      omega
set_option maxHeartbeats 4000000 in
set_option maxRecDepth 100000 in
theorem ext_ok (w : World) (Pr : TSet) (Bs lp gy ge bm bk bn gm : Nat) (lbm : Array Value) (may : List Int → Bool) (n : Int) (k : Nat) (hn : n ≤ 256) (hk : k ≤ 256)
    (hPm : Pr bm ∧ Pr bk ∧ Pr bn) (hPB : ∀ b, Pr b → b < Bs)
    (cm : w.cell? ⟨bm, 0, none⟩ = some (.func (.func gm) #[] lbm)) (ck : w.cell? ⟨bk, 0, none⟩ = some (.int .i64 k)) (cn : w.cell? ⟨bn, 0, none⟩ = some (.int .i64 n))
    (em : ∀ args w, (callFunc gm args).run Tryz.prog w = .ok (.enter gm args) w)
    (hmay : ∀ W A c l, KB Pr w W → RInts W A l → (∀ v ∈ l, 0 ≤ v ∧ v < n) → l.length ≤ k → Calls Tryz.prog gm (#[.slice A l.length c] ++ lbm) W fun e W' => e = .returned (.bool (may l)) ∧ Ext W W')
    (J Jx : List LA → TSet → World → Prop) (hJ : Stays J)
    (hY : ∀ pre x T W1, J pre T W1 → RvL Bs T W1 x → (pre ++ [x]).map (·.1) <+: chR n may k [] → ∀ m, YieldAt Fence.wide m Tryz.prog lp (encLA x) W1 fun e W' =>
      (e = .returned (.bool true) ∧ J (pre ++ [x]) T W' ∧ KB (fun k => Pr k ∨ T k) W1 W') ∨ (e = .returned (.bool false) ∧ Jx (pre ++ [x]) T W')) :
    ∀ (d : Nat) (l : List Int) (pre : List LA) (T : TSet) (W : World) (A : Option Addr) (c : Nat), l.length + d = k → (∀ v ∈ l, 0 ≤ v ∧ v < n) → J pre T W → ChW w Pr Bs lp gy ge #[.pointer (some ⟨bm, 0, none⟩), .pointer (some ⟨bk, 0, none⟩), .pointer (some ⟨gy, 0, none⟩), .pointer (some ⟨bn, 0, none⟩), .pointer (some ⟨ge, 0, none⟩)] T W →
      OwnG EInt W Bs noT A l.length c l → (∀ b, blockOf A = some b → T b ∧ b ≠ gy ∧ b ≠ ge) → (∀ ad, A = some ad → 0 < l.length) → pre.map (·.1) ++ chR n may d l <+: chR n may k [] →
      Calls Tryz.prog 68 #[.slice A l.length c, .pointer (some ⟨bm, 0, none⟩), .pointer (some ⟨bk, 0, none⟩), .pointer (some ⟨gy, 0, none⟩), .pointer (some ⟨bn, 0, none⟩), .pointer (some ⟨ge, 0, none⟩)] W (ExtP Pr Bs n may k J Jx d l pre T W A c) := by
  intro d
  induction d with
  | zero =>
    intro l pre T W A c hl hlr hj hw hown hA hAl hp
    refine (callsIn_wide (n := 3)).1 (callsIn_of_wp Tryz.func68 rfl trivial ?_ rfl)
    simp only [Tryz.ntmps68, List.size_toArray, List.length_cons, List.length_nil, Nat.reduceAdd, Nat.reduceSub, Array.replicate_succ, Array.replicate_zero, List.push_toArray, List.append_toArray, List.nil_append, List.cons_append]
    have f1 := hw.kb.cell (p := ⟨bm, 0, none⟩) hPm.1 cm
    have f2 := hw.kb.cell (p := ⟨bk, 0, none⟩) hPm.2.1 ck
    have f3 := hw.kb.cell (p := ⟨bn, 0, none⟩) hPm.2.2 cn
    have f4 := hw.cy
    have f5 := hw.ce
    have Hmay := hid hmay; have HY := hid hY; have Hlr := hid hlr; have Hw := hid hw; clear hmay hY hlr hw
    have hcall := Hmay.out W A c l Hw.out.kb (hown.ints (by omega)).1 Hlr.out (by omega)
    gi_wp2
    refine ⟨trivial, (callsIn_wide.2 hcall).mono ?_⟩
    rintro e W1 ⟨rfl, x1⟩
    have g1 := cellE x1 f1 (by have := hPB bm hPm.1; have := Hw.out.base; show bm < _; omega)
    have g2 := cellE x1 f2 (by have := hPB bk hPm.2.1; have := Hw.out.base; show bk < _; omega)
    have g3 := cellE x1 f3 (by have := hPB bn hPm.2.2; have := Hw.out.base; show bn < _; omega)
    have g4 := cellE x1 f4 (by have := Hw.out.t gy Hw.out.ty; show gy < _; omega)
    have g5 := cellE x1 f5 (by have := Hw.out.t ge Hw.out.te; show ge < _; omega)
    clear f1 f2 f3 f4 f5 hcall
    cases hm : may l
    · gi_wp2
      refine bodyPost_ret (results_tmp rfl _ _ _) rfl ?_
      refine Or.inl ⟨rfl, [], T, by rw [chR_no hm]; rfl, by rw [List.append_nil]; exact hJ.ext hj x1, Step.ext x1, hown.to x1⟩
    · obtain rfl : k = l.length := by omega
      gi_wp2
      refine wpIn_region_any (by kernel_rfl) ?_
      obtain ⟨V, hV⟩ : ∃ V : World, V = { W1 with drawn := W1.drawn + 1 } := ⟨_, rfl⟩
      have xV : Ext W1 V := by rw [hV]; exact ⟨rfl, rfl, rfl, Nat.le_refl _, fun _ _ => rfl⟩
      have g4V := cellE xV g4 (by have := Hw.out.t gy Hw.out.ty; have := x1.size; show gy < _; omega)
      rw [← hV]
      clear hV
      have hcl := sClone_ok V A c l ((hown.to x1).to xV |>.ints (by omega)).1 (fun e => by subst e; exact own_none hown) (fun ad e => hAl ad e)
      have Hcl := hid hcl; clear hcl
      (refine take_at (i := 1) (v := ?_) rfl rfl rfl (by kernel_rfl) (by kernel_rfl) (by kernel_rfl) (fun _ _ _ h => h) ⟨Or.inl ⟨by rfl, ?_⟩, fun _ => rfl⟩ ?_; rotate_left; (focus (intro w; go_simp; all_goals (with_reducible rfl))); (try go_frame))
      refine wpAnyIn_ready (rs := [0, 2]) (by kernel_rfl) (by simp) ?_
      refine AllReadyIn.cons rfl (fun K hK => ?_) (AllReadyIn.cons rfl (fun K hK => ?_) AllReadyIn.nil)
      · go_simp
        refine hK _ _ ?_
        clear hK K
        refine wpAnyIn_ready (rs := [2]) (by kernel_rfl) (by simp) ?_
        refine AllReadyIn.cons rfl (fun K hK => ?_) AllReadyIn.nil
        go_simp
        refine ⟨trivial, (callsIn_wide.2 Hcl.out).mono ?_⟩
        rintro e W2 ⟨A2, c2, rfl, r2, cap2, fr2, x2⟩
        refine hK _ _ ?_
        clear hK K
        have x12 := x1.tr (xV.tr x2)
        have hRv : RvL Bs T W2 (l, A2, c2) := ⟨r2, cap2, fun ad e => by
          have h1 := fr2 ad e
          have h2 := x1.size
          have h3 := xV.size
          have h4 := Hw.out.base
          exact ⟨fun ht => by have := Hw.out.t _ ht; omega, by omega, h1.2.1, h1.2.2.1, h1.2.2.2⟩⟩
        have hpre : (pre ++ [(l, A2, c2)]).map (·.1) <+: chR n may l.length [] := by rw [List.map_append]; rw [chR_end hm] at hp; exact hp
        have Hpre := hid hpre; clear hpre
        obtain ⟨fn, tmps, assign, body, hy, hR⟩ := HY.out pre (l, A2, c2) T W2 (hJ.ext hj x12) hRv Hpre.out 2
        refine wpAnyIn_ready (rs := [3]) (by kernel_rfl) (by simp) ?_
        refine AllReadyIn.cons rfl (fun K hK => ?_) AllReadyIn.nil
        go_simp
        refine hR.mono ?_
        rintro e W3 (⟨rfl, hj3, hk3⟩ | ⟨rfl, hjx3⟩)
        · refine hK _ _ ?_
          clear hK K
          refine wpAnyIn_ready (rs := [4]) (by kernel_rfl) (by simp) ?_
          refine AllReadyIn.cons rfl (fun K hK => ?_) AllReadyIn.nil
          go_simp
          refine hK _ _ ?_
          clear hK K
          refine wpAnyIn_done (by kernel_rfl) ?_ _
          gi_wp2
          refine bodyPost_ret (results_tmp rfl _ _ _) rfl ?_
          refine Or.inl ⟨rfl, [(l, A2, c2)], T, by rw [chR_end hm]; rfl, hj3, (Step.ext x12).tr ⟨hk3.mono fun b _ h => h.imp id And.left, fun _ h => h, fun _ h => .inl h⟩, ((hown.to x12).kbInt hk3 (fun b hb => .inr (hA b hb).1) _)⟩
        · refine hK _ _ ?_
          clear hK K
          refine wpAnyIn_ready (rs := [4]) (by kernel_rfl) (by simp) ?_
          refine AllReadyIn.cons rfl (fun K hK => ?_) AllReadyIn.nil
          go_simp
          refine hK _ _ ?_
          clear hK K
          refine wpAnyIn_done (by kernel_rfl) ?_ _
          gi_wp2
          refine bodyPost_ret (results_tmp rfl _ _ _) rfl ?_
          refine Or.inr ⟨rfl, [(l, A2, c2)], T, Hpre.out, hjx3⟩
      · go_simp
        refine ⟨trivial, (callsIn_wide.2 Hcl.out).mono ?_⟩
        rintro e W2 ⟨A2, c2, rfl, r2, cap2, fr2, x2⟩
        refine hK _ _ ?_
        clear hK K
        have g4W := cellE x2 g4V (by have := Hw.out.t gy Hw.out.ty; have := x1.size; have := xV.size; show gy < _; omega)
        refine wpAnyIn_ready (rs := [0]) (by kernel_rfl) (by simp) ?_
        refine AllReadyIn.cons rfl (fun K hK => ?_) AllReadyIn.nil
        go_simp
        refine hK _ _ ?_
        clear hK K
        have x12 := x1.tr (xV.tr x2)
        have hRv : RvL Bs T W2 (l, A2, c2) := ⟨r2, cap2, fun ad e => by
          have h1 := fr2 ad e
          have h2 := x1.size
          have h3 := xV.size
          have h4 := Hw.out.base
          exact ⟨fun ht => by have := Hw.out.t _ ht; omega, by omega, h1.2.1, h1.2.2.1, h1.2.2.2⟩⟩
        have hpre : (pre ++ [(l, A2, c2)]).map (·.1) <+: chR n may l.length [] := by rw [List.map_append]; rw [chR_end hm] at hp; exact hp
        have Hpre := hid hpre; clear hpre
        obtain ⟨fn, tmps, assign, body, hy, hR⟩ := HY.out pre (l, A2, c2) T W2 (hJ.ext hj x12) hRv Hpre.out 2
        refine wpAnyIn_ready (rs := [3]) (by kernel_rfl) (by simp) ?_
        refine AllReadyIn.cons rfl (fun K hK => ?_) AllReadyIn.nil
        go_simp
        refine hR.mono ?_
        rintro e W3 (⟨rfl, hj3, hk3⟩ | ⟨rfl, hjx3⟩)
        · refine hK _ _ ?_
          clear hK K
          refine wpAnyIn_ready (rs := [4]) (by kernel_rfl) (by simp) ?_
          refine AllReadyIn.cons rfl (fun K hK => ?_) AllReadyIn.nil
          go_simp
          refine hK _ _ ?_
          clear hK K
          refine wpAnyIn_done (by kernel_rfl) ?_ _
          gi_wp2
          refine bodyPost_ret (results_tmp rfl _ _ _) rfl ?_
          refine Or.inl ⟨rfl, [(l, A2, c2)], T, by rw [chR_end hm]; rfl, hj3, (Step.ext x12).tr ⟨hk3.mono fun b _ h => h.imp id And.left, fun _ h => h, fun _ h => .inl h⟩, ((hown.to x12).kbInt hk3 (fun b hb => .inr (hA b hb).1) _)⟩
        · refine hK _ _ ?_
          clear hK K
          refine wpAnyIn_ready (rs := [4]) (by kernel_rfl) (by simp) ?_
          refine AllReadyIn.cons rfl (fun K hK => ?_) AllReadyIn.nil
          go_simp
          refine hK _ _ ?_
          clear hK K
          refine wpAnyIn_done (by kernel_rfl) ?_ _
          gi_wp2
          refine bodyPost_ret (results_tmp rfl _ _ _) rfl ?_
          refine Or.inr ⟨rfl, [(l, A2, c2)], T, Hpre.out, hjx3⟩
  | succ d ih =>
    intro l pre T W A c hl hlr hj hw hown hA hAl hp
    refine (callsIn_wide (n := 3)).1 (callsIn_of_wp Tryz.func68 rfl trivial ?_ rfl)
    simp only [Tryz.ntmps68, List.size_toArray, List.length_cons, List.length_nil, Nat.reduceAdd, Nat.reduceSub, Array.replicate_succ, Array.replicate_zero, List.push_toArray, List.append_toArray, List.nil_append, List.cons_append]
    have f1 := hw.kb.cell (p := ⟨bm, 0, none⟩) hPm.1 cm
    have f2 := hw.kb.cell (p := ⟨bk, 0, none⟩) hPm.2.1 ck
    have f3 := hw.kb.cell (p := ⟨bn, 0, none⟩) hPm.2.2 cn
    have f4 := hw.cy
    have f5 := hw.ce
    have Hmay := hid hmay; have HY := hid hY; have Hlr := hid hlr; have Hw := hid hw; clear hmay hY hlr hw
    have hcall := Hmay.out W A c l Hw.out.kb (hown.ints (by omega)).1 Hlr.out (by omega)
    gi_wp2
    refine ⟨trivial, (callsIn_wide.2 hcall).mono ?_⟩
    rintro e W1 ⟨rfl, x1⟩
    have g1 := cellE x1 f1 (by have := hPB bm hPm.1; have := Hw.out.base; show bm < _; omega)
    have g2 := cellE x1 f2 (by have := hPB bk hPm.2.1; have := Hw.out.base; show bk < _; omega)
    have g3 := cellE x1 f3 (by have := hPB bn hPm.2.2; have := Hw.out.base; show bn < _; omega)
    have g4 := cellE x1 f4 (by have := Hw.out.t gy Hw.out.ty; show gy < _; omega)
    have g5 := cellE x1 f5 (by have := Hw.out.t ge Hw.out.te; show ge < _; omega)
    clear f1 f2 f3 f4 f5 hcall
    cases hm : may l
    · gi_wp2
      refine bodyPost_ret (results_tmp rfl _ _ _) rfl ?_
      refine Or.inl ⟨rfl, [], T, by rw [chR_no hm]; rfl, by rw [List.append_nil]; exact hJ.ext hj x1, Step.ext x1, hown.to x1⟩
    · have hne : ((l.length : Int) == (k : Int)) = false := by rw [beq_eq_false_iff_ne]; omega
      gi_wp2
      gi_loopw [8, 22] (fun _ t wr => ∃ (x : Nat) (ys : List LA) (T' : TSet), x ≤ n.toNat ∧ t = .int .i64 x ∧ ys.map (·.1) = chTo n may d l x ∧ J (pre ++ ys) T' wr ∧ Step Pr A T T' W wr ∧ OwnG EInt wr Bs noT A l.length c l) (fun _ t _ => n.toNat - (intOf t).toNat)
      case atStart => exact ⟨0, [], T, Nat.zero_le _, rfl, rfl, by rw [List.append_nil]; exact hJ.ext hj x1, Step.ext x1, hown.to x1⟩
      case round =>
        obtain ⟨x, ys, T1, hx, rfl, hys, hj1, hst, hown1⟩ := hrel
        clear g1 g2 g3 g4 g5
        by_cases hlt : (x : Int) < n
        · gi_wp2
          refine wpIn_region_any (by kernel_rfl) ?_
          obtain ⟨V, hV⟩ : ∃ V : World, V = { wr with drawn := wr.drawn + 1 } := ⟨_, rfl⟩
          have xV : Ext wr V := by rw [hV]; exact ⟨rfl, rfl, rfl, Nat.le_refl _, fun _ _ => rfl⟩
          rw [← hV]
          clear hV
          have hownV := hown1.to xV
          have xce := cellE xV (hst.kb.cell (p := ⟨ge, 0, none⟩) (.inr ⟨Hw.out.te, fun e => (hA ge e).2.2 rfl⟩) Hw.out.ce) (by have := Hw.out.t ge Hw.out.te; have := hst.kb.size; show ge < _; omega)
          have hcon := containsInt_m V A c l (hownV.ints (by omega)).1 (x : Int)
          have Hcon := hid hcon; clear hcon
          cases hmem : memB l (x : Int)
          · rw [hmem] at Hcon
            have hB1 := Blk.new V 3 #[.int .i64 (x : Int)]
            have x1V : Ext V (V.alloc (.cells #[.int .i64 (x : Int)] 3)) := (Ext.rfl' V).al _
            obtain ⟨A', c', V2, hrun, hown2, hcase⟩ := app_split (w := V.alloc (.cells #[.int .i64 (x : Int)] 3)) Bs (by have := Hw.out.base; have := hst.kb.size; have := xV.size; have := x1V.size; omega) noT (hownV.to x1V) V.heap.size (x : Int) (hB1.cell 0) ⟨by omega, by omega⟩ (by omega) 22
            obtain ⟨T2, hj2, hw2, hA2, hback⟩ := grow_step (x := (x : Int)) hJ hPB Hw.out hst (xV.tr x1V) hj1 hown1 hA hcase
            have ceV : V.cell? ⟨ge, 0, none⟩ = _ := xce
            have ceV1 : (V.alloc (.cells #[.int .i64 (x : Int)] 3)).cell? ⟨ge, 0, none⟩ = _ := cellE x1V ceV (by have := Hw.out.t ge Hw.out.te; have := hst.kb.size; have := xV.size; show ge < _; omega)
            have ceV2 := hw2.ce
            have hrec := ih (l ++ [(x : Int)]) (pre ++ ys) T2 V2 A' c' (by simp; omega) (fun v hv => (List.mem_append.1 hv).elim (Hlr.out v) (fun h => by obtain rfl := List.mem_singleton.1 h; omega)) hj2 hw2 (by rw [List.length_append, List.length_singleton]; exact hown2) hA2 (fun _ _ => by simp)
              (by
                rw [List.map_append, hys, List.append_assoc]
                have e : chTo n may d l x ++ chR n may d (l ++ [(x : Int)]) = chTo n may d l (x + 1) := by rw [chTo_succ, hmem]; rfl
                rw [e]
                rw [chR_go hm] at hp
                obtain ⟨r, hr⟩ := chTo_prefix n may d l (show x + 1 ≤ n.toNat by omega)
                rw [← hr, ← List.append_assoc] at hp
                exact (List.prefix_append _ _).trans hp)
            rw [List.length_append, List.length_singleton] at hrec
            have Hrec := hid hrec
            clear hrec
            have Hback := hid hback
            have Hrun := hid hrun
            have Hw2 := hid hw2
            have hc0 : A' ≠ none := by
              rcases hcase with ⟨rfl, _, ⟨b, hb⟩, _⟩ | ⟨rfl, _⟩
              · intro e; rw [e] at hb; cases hb
              · simp
            clear hback hw2 hcase hB1 x1V hrun
            (refine take_at (i := 0) (v := ?_) rfl rfl rfl (by kernel_rfl) (by kernel_rfl) (by kernel_rfl) (fun _ _ _ h => h) ⟨Or.inl ⟨by rfl, ?_⟩, fun _ => rfl⟩ ?_; rotate_left; (focus (intro w; go_simp; all_goals (with_reducible rfl))); (try go_frame))
            (refine take_at (i := 1) (v := ?_) rfl rfl rfl (by kernel_rfl) (by kernel_rfl) (by kernel_rfl) (fun _ _ _ h => h) ⟨Or.inl ⟨by rfl, ?_⟩, fun _ => rfl⟩ ?_; rotate_left; (focus (intro w; go_simp; all_goals (with_reducible rfl))); (try go_frame))
            refine wpAnyIn_ready (rs := [2]) (by kernel_rfl) (by simp) ?_
            refine AllReadyIn.cons rfl (fun K hK => ?_) AllReadyIn.nil
            go_simp
            refine ⟨trivial, (callsIn_wide.2 Hcon.out).mono ?_⟩
            rintro e w1 ⟨rfl, rfl⟩
            refine hK _ _ ?_
            clear hK K
            (refine take_at (i := 3) (v := ?_) rfl rfl rfl (by kernel_rfl) (by kernel_rfl) (by kernel_rfl) (fun _ _ _ h => h) ⟨Or.inl ⟨by rfl, ?_⟩, fun _ => rfl⟩ ?_; rotate_left; (focus (intro w; go_simp; all_goals (with_reducible rfl))); (try go_frame))
            (refine take_at (i := 4) (v := ?_) rfl rfl rfl (by kernel_rfl) (by kernel_rfl) (by kernel_rfl) (fun _ _ _ h => h) ⟨Or.inl ⟨by rfl, ?_⟩, fun _ => rfl⟩ ?_; rotate_left; (focus (intro w; go_simp; all_goals (with_reducible rfl))); (try go_frame))
            (refine take_at (i := 6) (v := ?_) rfl rfl rfl (by kernel_rfl) (by kernel_rfl) (by kernel_rfl) (fun _ _ _ h => h) ⟨Or.inl ⟨by rfl, ?_⟩, fun _ => rfl⟩ ?_; rotate_left; (focus (intro w; go_simp; all_goals (with_reducible rfl))); (try go_frame))
            (refine take_at (i := 7) (v := ?_) rfl rfl rfl (by kernel_rfl) (by kernel_rfl) (by kernel_rfl) (fun _ _ _ h => h) ⟨Or.inl ⟨by rfl, ?_⟩, fun _ => rfl⟩ ?_; rotate_left; (focus (intro w; go_simp; all_goals (with_reducible rfl))); (try go_frame))
            refine wpAnyIn_ready (rs := [5, 8]) (by kernel_rfl) (by simp) ?_
            refine AllReadyIn.cons rfl (fun K hK => ?_) (AllReadyIn.cons rfl (fun K hK => ?_) AllReadyIn.nil)
            · go_simp
              refine hK _ _ ?_
              clear hK K
              refine wpAnyIn_ready (rs := [8]) (by kernel_rfl) (by simp) ?_
              refine AllReadyIn.cons rfl (fun K hK => ?_) AllReadyIn.nil
              go_simp
              refine hK _ _ ?_
              clear hK K
              refine wpAnyIn_ready (rs := [9]) (by kernel_rfl) (by simp) ?_
              refine AllReadyIn.cons rfl (fun K hK => ?_) AllReadyIn.nil
              refine app_up (.tmp 31) (.tmp 33) 22 22 34 4 (.slice A l.length c) (.slice (some ⟨V.heap.size, 0, none⟩) 1 1) (.slice A' (l.length + 1) c') rfl rfl rfl rfl ?_ ?_ ?_ Hrun.out ?_
              · simp only [List.getElem?_toArray, List.getElem?_cons_succ, List.getElem?_cons_zero]
              · rfl
              · rfl
              go_simp
              refine hK _ _ ?_
              clear hK K
              refine wpAnyIn_ready (rs := [10]) (by kernel_rfl) (by simp) ?_
              refine AllReadyIn.cons rfl (fun K hK => ?_) AllReadyIn.nil
              go_simp
              refine ⟨trivial, (callsIn_wide.2 Hrec.out).mono ?_⟩
              clear Hrec
              rintro e W3 (⟨rfl, ys2, T3, hys2, hj3, hst3, hown3⟩ | ⟨rfl, ys2, T3, hp3, hjx3⟩)
              · refine hK _ _ ?_
                clear hK K
                (refine take_at (i := 11) (v := ?_) rfl rfl rfl (by kernel_rfl) (by kernel_rfl) (by kernel_rfl) (fun _ _ _ h => h) ⟨Or.inl ⟨by rfl, ?_⟩, fun _ => rfl⟩ ?_; rotate_left; (focus (intro w; go_simp; all_goals (with_reducible rfl))); (try go_frame))
                (refine take_at (i := 12) (v := ?_) rfl rfl rfl (by kernel_rfl) (by kernel_rfl) (by kernel_rfl) (fun _ _ _ h => h) ⟨Or.inl ⟨by rfl, ?_⟩, fun _ => rfl⟩ ?_; rotate_left; (focus (intro w; go_simp; all_goals (with_reducible rfl))); (try go_frame))
                refine wpAnyIn_done (by kernel_rfl) ?_ _
                rw [List.length_append, List.length_singleton] at hown3
                obtain ⟨hst4, hown4⟩ := Hback.out T3 W3 hst3 hown3
                have Hys2 := hid hys2
                clear hys2
                gi_wp2
                go_roundw
                case rel => exact ⟨x + 1, ys ++ ys2, T3, by omega, by go_num, by rw [List.map_append, hys, Hys2.out, chTo_succ, hmem]; rfl, by rw [← List.append_assoc]; exact hj3, hst4, hown4⟩
                case measure => simp [intOf]; omega
              · refine hK _ _ ?_
                clear hK K
                (refine take_at (i := 11) (v := ?_) rfl rfl rfl (by kernel_rfl) (by kernel_rfl) (by kernel_rfl) (fun _ _ _ h => h) ⟨Or.inl ⟨by rfl, ?_⟩, fun _ => rfl⟩ ?_; rotate_left; (focus (intro w; go_simp; all_goals (with_reducible rfl))); (try go_frame))
                (refine take_at (i := 12) (v := ?_) rfl rfl rfl (by kernel_rfl) (by kernel_rfl) (by kernel_rfl) (fun _ _ _ h => h) ⟨Or.inl ⟨by rfl, ?_⟩, fun _ => rfl⟩ ?_; rotate_left; (focus (intro w; go_simp; all_goals (with_reducible rfl))); (try go_frame))
                refine wpAnyIn_done (by kernel_rfl) ?_ _
                have Hp3 := hid hp3
                clear hp3
                gi_wp2
                refine bodyPost_ret (results_tmp rfl _ _ _) rfl ?_
                refine Or.inr ⟨rfl, ys ++ ys2, T3, by rw [← List.append_assoc]; exact Hp3.out, by rw [← List.append_assoc]; exact hjx3⟩
            · go_simp
              refine hK _ _ ?_
              clear hK K
              refine wpAnyIn_ready (rs := [5, 9]) (by kernel_rfl) (by simp) ?_
              refine AllReadyIn.cons rfl (fun K hK => ?_) (AllReadyIn.cons rfl (fun K hK => ?_) AllReadyIn.nil)
              · go_simp
                refine hK _ _ ?_
                clear hK K
                refine wpAnyIn_ready (rs := [9]) (by kernel_rfl) (by simp) ?_
                refine AllReadyIn.cons rfl (fun K hK => ?_) AllReadyIn.nil
                refine app_up (.tmp 31) (.tmp 33) 22 22 34 4 (.slice A l.length c) (.slice (some ⟨V.heap.size, 0, none⟩) 1 1) (.slice A' (l.length + 1) c') rfl rfl rfl rfl ?_ ?_ ?_ Hrun.out ?_
                · simp only [List.getElem?_toArray, List.getElem?_cons_succ, List.getElem?_cons_zero]
                · rfl
                · rfl
                go_simp
                refine hK _ _ ?_
                clear hK K
                refine wpAnyIn_ready (rs := [10]) (by kernel_rfl) (by simp) ?_
                refine AllReadyIn.cons rfl (fun K hK => ?_) AllReadyIn.nil
                go_simp
                refine ⟨trivial, (callsIn_wide.2 Hrec.out).mono ?_⟩
                clear Hrec
                rintro e W3 (⟨rfl, ys2, T3, hys2, hj3, hst3, hown3⟩ | ⟨rfl, ys2, T3, hp3, hjx3⟩)
                · refine hK _ _ ?_
                  clear hK K
                  (refine take_at (i := 11) (v := ?_) rfl rfl rfl (by kernel_rfl) (by kernel_rfl) (by kernel_rfl) (fun _ _ _ h => h) ⟨Or.inl ⟨by rfl, ?_⟩, fun _ => rfl⟩ ?_; rotate_left; (focus (intro w; go_simp; all_goals (with_reducible rfl))); (try go_frame))
                  (refine take_at (i := 12) (v := ?_) rfl rfl rfl (by kernel_rfl) (by kernel_rfl) (by kernel_rfl) (fun _ _ _ h => h) ⟨Or.inl ⟨by rfl, ?_⟩, fun _ => rfl⟩ ?_; rotate_left; (focus (intro w; go_simp; all_goals (with_reducible rfl))); (try go_frame))
                  refine wpAnyIn_done (by kernel_rfl) ?_ _
                  rw [List.length_append, List.length_singleton] at hown3
                  obtain ⟨hst4, hown4⟩ := Hback.out T3 W3 hst3 hown3
                  have Hys2 := hid hys2
                  clear hys2
                  gi_wp2
                  go_roundw
                  case rel => exact ⟨x + 1, ys ++ ys2, T3, by omega, by go_num, by rw [List.map_append, hys, Hys2.out, chTo_succ, hmem]; rfl, by rw [← List.append_assoc]; exact hj3, hst4, hown4⟩
                  case measure => simp [intOf]; omega
                · refine hK _ _ ?_
                  clear hK K
                  (refine take_at (i := 11) (v := ?_) rfl rfl rfl (by kernel_rfl) (by kernel_rfl) (by kernel_rfl) (fun _ _ _ h => h) ⟨Or.inl ⟨by rfl, ?_⟩, fun _ => rfl⟩ ?_; rotate_left; (focus (intro w; go_simp; all_goals (with_reducible rfl))); (try go_frame))
                  (refine take_at (i := 12) (v := ?_) rfl rfl rfl (by kernel_rfl) (by kernel_rfl) (by kernel_rfl) (fun _ _ _ h => h) ⟨Or.inl ⟨by rfl, ?_⟩, fun _ => rfl⟩ ?_; rotate_left; (focus (intro w; go_simp; all_goals (with_reducible rfl))); (try go_frame))
                  refine wpAnyIn_done (by kernel_rfl) ?_ _
                  have Hp3 := hid hp3
                  clear hp3
                  gi_wp2
                  refine bodyPost_ret (results_tmp rfl _ _ _) rfl ?_
                  refine Or.inr ⟨rfl, ys ++ ys2, T3, by rw [← List.append_assoc]; exact Hp3.out, by rw [← List.append_assoc]; exact hjx3⟩
              · refine app_up (.tmp 31) (.tmp 33) 22 22 34 4 (.slice A l.length c) (.slice (some ⟨V.heap.size, 0, none⟩) 1 1) (.slice A' (l.length + 1) c') rfl rfl rfl rfl ?_ ?_ ?_ Hrun.out ?_
                · simp only [List.getElem?_toArray, List.getElem?_cons_succ, List.getElem?_cons_zero]
                · rfl
                · rfl
                go_simp
                refine hK _ _ ?_
                clear hK K
                refine wpAnyIn_ready (rs := [5]) (by kernel_rfl) (by simp) ?_
                refine AllReadyIn.cons rfl (fun K hK => ?_) AllReadyIn.nil
                go_simp
                refine hK _ _ ?_
                clear hK K
                refine wpAnyIn_ready (rs := [10]) (by kernel_rfl) (by simp) ?_
                refine AllReadyIn.cons rfl (fun K hK => ?_) AllReadyIn.nil
                go_simp
                refine ⟨trivial, (callsIn_wide.2 Hrec.out).mono ?_⟩
                clear Hrec
                rintro e W3 (⟨rfl, ys2, T3, hys2, hj3, hst3, hown3⟩ | ⟨rfl, ys2, T3, hp3, hjx3⟩)
                · refine hK _ _ ?_
                  clear hK K
                  (refine take_at (i := 11) (v := ?_) rfl rfl rfl (by kernel_rfl) (by kernel_rfl) (by kernel_rfl) (fun _ _ _ h => h) ⟨Or.inl ⟨by rfl, ?_⟩, fun _ => rfl⟩ ?_; rotate_left; (focus (intro w; go_simp; all_goals (with_reducible rfl))); (try go_frame))
                  (refine take_at (i := 12) (v := ?_) rfl rfl rfl (by kernel_rfl) (by kernel_rfl) (by kernel_rfl) (fun _ _ _ h => h) ⟨Or.inl ⟨by rfl, ?_⟩, fun _ => rfl⟩ ?_; rotate_left; (focus (intro w; go_simp; all_goals (with_reducible rfl))); (try go_frame))
                  refine wpAnyIn_done (by kernel_rfl) ?_ _
                  rw [List.length_append, List.length_singleton] at hown3
                  obtain ⟨hst4, hown4⟩ := Hback.out T3 W3 hst3 hown3
                  have Hys2 := hid hys2
                  clear hys2
                  gi_wp2
                  go_roundw
                  case rel => exact ⟨x + 1, ys ++ ys2, T3, by omega, by go_num, by rw [List.map_append, hys, Hys2.out, chTo_succ, hmem]; rfl, by rw [← List.append_assoc]; exact hj3, hst4, hown4⟩
                  case measure => simp [intOf]; omega
                · refine hK _ _ ?_
                  clear hK K
                  (refine take_at (i := 11) (v := ?_) rfl rfl rfl (by kernel_rfl) (by kernel_rfl) (by kernel_rfl) (fun _ _ _ h => h) ⟨Or.inl ⟨by rfl, ?_⟩, fun _ => rfl⟩ ?_; rotate_left; (focus (intro w; go_simp; all_goals (with_reducible rfl))); (try go_frame))
                  (refine take_at (i := 12) (v := ?_) rfl rfl rfl (by kernel_rfl) (by kernel_rfl) (by kernel_rfl) (fun _ _ _ h => h) ⟨Or.inl ⟨by rfl, ?_⟩, fun _ => rfl⟩ ?_; rotate_left; (focus (intro w; go_simp; all_goals (with_reducible rfl))); (try go_frame))
                  refine wpAnyIn_done (by kernel_rfl) ?_ _
                  have Hp3 := hid hp3
                  clear hp3
                  gi_wp2
                  refine bodyPost_ret (results_tmp rfl _ _ _) rfl ?_
                  refine Or.inr ⟨rfl, ys ++ ys2, T3, by rw [← List.append_assoc]; exact Hp3.out, by rw [← List.append_assoc]; exact hjx3⟩
          · rw [hmem] at Hcon
            (refine take_at (i := 0) (v := ?_) rfl rfl rfl (by kernel_rfl) (by kernel_rfl) (by kernel_rfl) (fun _ _ _ h => h) ⟨Or.inl ⟨by rfl, ?_⟩, fun _ => rfl⟩ ?_; rotate_left; (focus (intro w; go_simp; all_goals (with_reducible rfl))); (try go_frame))
            (refine take_at (i := 1) (v := ?_) rfl rfl rfl (by kernel_rfl) (by kernel_rfl) (by kernel_rfl) (fun _ _ _ h => h) ⟨Or.inl ⟨by rfl, ?_⟩, fun _ => rfl⟩ ?_; rotate_left; (focus (intro w; go_simp; all_goals (with_reducible rfl))); (try go_frame))
            refine wpAnyIn_ready (rs := [2]) (by kernel_rfl) (by simp) ?_
            refine AllReadyIn.cons rfl (fun K hK => ?_) AllReadyIn.nil
            go_simp
            refine ⟨trivial, (callsIn_wide.2 Hcon.out).mono ?_⟩
            rintro e w1 ⟨rfl, rfl⟩
            refine hK _ _ ?_
            clear hK K
            (refine take_at (i := 3) (v := ?_) rfl rfl rfl (by kernel_rfl) (by kernel_rfl) (by kernel_rfl) (fun _ _ _ h => h) ⟨Or.inl ⟨by rfl, ?_⟩, fun _ => rfl⟩ ?_; rotate_left; (focus (intro w; go_simp; all_goals (with_reducible rfl))); (try go_frame))
            (refine take_at (i := 4) (v := ?_) rfl rfl rfl (by kernel_rfl) (by kernel_rfl) (by kernel_rfl) (fun _ _ _ h => h) ⟨Or.inl ⟨by rfl, ?_⟩, fun _ => rfl⟩ ?_; rotate_left; (focus (intro w; go_simp; all_goals (with_reducible rfl))); (try go_frame))
            (refine take_at (i := 5) (v := undef) rfl rfl rfl (by kernel_rfl) (by kernel_rfl) (by kernel_rfl) (fun _ _ _ h => h) ⟨Or.inr ⟨?_, rfl⟩, fun _ => ?_⟩ ?_; (focus ((first | refine wanted_notF rfl rfl ?_ | refine wanted_notT rfl rfl ?_); (focus (simp only [List.getElem?_toArray, List.getElem?_cons_succ, List.getElem?_cons_zero]; done)))); (focus rfl); (try go_frame))
            (refine take_at (i := 6) (v := undef) rfl rfl rfl (by kernel_rfl) (by kernel_rfl) (by kernel_rfl) (fun _ _ _ h => h) ⟨Or.inr ⟨?_, rfl⟩, fun _ => ?_⟩ ?_; (focus ((first | refine wanted_notF rfl rfl ?_ | refine wanted_notT rfl rfl ?_); (focus (simp only [List.getElem?_toArray, List.getElem?_cons_succ, List.getElem?_cons_zero]; done)))); (focus rfl); (try go_frame))
            (refine take_at (i := 7) (v := undef) rfl rfl rfl (by kernel_rfl) (by kernel_rfl) (by kernel_rfl) (fun _ _ _ h => h) ⟨Or.inr ⟨?_, rfl⟩, fun _ => ?_⟩ ?_; (focus ((first | refine wanted_notF rfl rfl ?_ | refine wanted_notT rfl rfl ?_); (focus (simp only [List.getElem?_toArray, List.getElem?_cons_succ, List.getElem?_cons_zero]; done)))); (focus rfl); (try go_frame))
            (refine take_at (i := 8) (v := undef) rfl rfl rfl (by kernel_rfl) (by kernel_rfl) (by kernel_rfl) (fun _ _ _ h => h) ⟨Or.inr ⟨?_, rfl⟩, fun _ => ?_⟩ ?_; (focus ((first | refine wanted_notF rfl rfl ?_ | refine wanted_notT rfl rfl ?_); (focus (simp only [List.getElem?_toArray, List.getElem?_cons_succ, List.getElem?_cons_zero]; done)))); (focus rfl); (try go_frame))
            (refine take_at (i := 9) (v := undef) rfl rfl rfl (by kernel_rfl) (by kernel_rfl) (by kernel_rfl) (fun _ _ _ h => h) ⟨Or.inr ⟨?_, rfl⟩, fun _ => ?_⟩ ?_; (focus ((first | refine wanted_notF rfl rfl ?_ | refine wanted_notT rfl rfl ?_); (focus (simp only [List.getElem?_toArray, List.getElem?_cons_succ, List.getElem?_cons_zero]; done)))); (focus rfl); (try go_frame))
            (refine take_at (i := 10) (v := undef) rfl rfl rfl (by kernel_rfl) (by kernel_rfl) (by kernel_rfl) (fun _ _ _ h => h) ⟨Or.inr ⟨?_, rfl⟩, fun _ => ?_⟩ ?_; (focus ((first | refine wanted_notF rfl rfl ?_ | refine wanted_notT rfl rfl ?_); (focus (simp only [List.getElem?_toArray, List.getElem?_cons_succ, List.getElem?_cons_zero]; done)))); (focus rfl); (try go_frame))
            (refine take_at (i := 11) (v := undef) rfl rfl rfl (by kernel_rfl) (by kernel_rfl) (by kernel_rfl) (fun _ _ _ h => h) ⟨Or.inr ⟨?_, rfl⟩, fun _ => ?_⟩ ?_; (focus ((first | refine wanted_notF rfl rfl ?_ | refine wanted_notT rfl rfl ?_); (focus (simp only [List.getElem?_toArray, List.getElem?_cons_succ, List.getElem?_cons_zero]; done)))); (focus rfl); (try go_frame))
            (refine take_at (i := 12) (v := ?_) rfl rfl rfl (by kernel_rfl) (by kernel_rfl) (by kernel_rfl) (fun _ _ _ h => h) ⟨Or.inl ⟨by rfl, ?_⟩, fun _ => rfl⟩ ?_; rotate_left; (focus (intro w; go_simp; all_goals (with_reducible rfl))); (try go_frame))
            refine wpAnyIn_done (by kernel_rfl) ?_ _
            gi_wp2
            go_roundw
            case rel => exact ⟨x + 1, ys, T1, by omega, by go_num, by rw [chTo_succ, hmem, hys]; simp, hJ.ext hj1 xV, hst.tr (Step.ext xV), hownV⟩
            case measure => simp [intOf]; omega
        · have hxn : x = n.toNat := by omega
          gi_wp2
          refine bodyPost_ret (results_tmp rfl _ _ _) rfl ?_
          refine Or.inl ⟨rfl, ys, T1, by rw [chR_go hm, hys, hxn], hj1, hst, hown1⟩
end Go.Proofs.YtimkijmjbnmcbaaGreat
