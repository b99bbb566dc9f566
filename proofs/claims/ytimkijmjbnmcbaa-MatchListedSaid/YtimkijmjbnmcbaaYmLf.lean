/- Contract: one instance comes before another one. -/
import Derived.Test.YtimkijmjbnmcbaaYmRk
import Derived.Test.YtimkijmjbnmcbaaYmOr
import Derived.Test.YtimkijmjbnmcbaaYm19
namespace Go.Proofs.Ytimkijmjbnmcbaa
open Go Go.RowKit
/-- 'append' to a list that the function owns. -/
theorem app_more {w : World} {base : Nat} (hbase : base ≤ w.heap.size) {A : Option Addr} {n c0 : Nat} {l : List Int} (hown : OwnI w base (.slice A n c0) l) {B : Option Addr} {m c : Nat} {news : List Int} (hr : RInts w B news) (hm : m = news.length) (hp : 0 < m) (hl : n + m ≤ 1000000) (ty : TypeId) :
    ∃ A' c' w', (Builtin.append_ #[22, 22] ty #[.slice A n c0, .slice B m c]).run Try.prog w = .ok (.slice A' (n + m) c') w' ∧ OwnI w' base (.slice A' (n + m) c') (l ++ news) ∧ ∀ w0 : World, base = w0.heap.size → Ext w0 w → Ext w0 w' := by
  obtain ⟨i, hi1, hz, hsz, hby⟩ := info_parts (P := Try.prog) (e := 3) (z := .int .i64 0) (size := 1) (bytes := 8) (by kernel_rfl)
  subst hm
  have hn := hown.lenEq
  subst hn
  obtain ⟨ad, rfl, -, -⟩ := hr.num hp
  have hc := hr.cells
  obtain ⟨v', w', hrun, hrow, hg, -⟩ := run_append_own (P := Try.prog) (w := w) base 22 ty 3 i (.int .i64 0) 1 8 (by kernel_rfl) hi1 hz hsz hby rfl (by omega) _ l.length _ hown.row ad news.length c (news.map (Value.int .i64)) (by simp)
    (by intro j u hu; obtain ⟨hj, rfl⟩ := List.getElem?_eq_some_iff.1 hu; rw [List.getElem_map]; exact hc j (by simpa using hj))
    (by intro u hu; obtain ⟨y, -, rfl⟩ := List.mem_map.1 hu; rfl) (by simp [maxLen]; omega) (by omega) hbase
  have h3 : OwnI w' base v' (l ++ news) := ⟨by simpa using hrow, fun x hx => (List.mem_append.1 hx).elim (hown.i64 x) (hr.i64 x), by rw [List.length_append]; omega⟩
  obtain ⟨A', c', rfl, -⟩ := h3.form
  rw [List.length_append] at h3 hrun
  refine ⟨A', c', w', hrun, h3, fun w0 e hx => ?_⟩
  subst e
  exact OwnI.grown hx hown hg
/-- 'append' to an empty slice without room. -/
theorem app_first {w : World} (g : Addr) {B : Option Addr} {m c : Nat} {news : List Int} (hr : RInts w B news) (hm : m = news.length) (hp : 0 < m) (hl : m ≤ 1000000) (ty : TypeId) :
    ∃ A' c' w', (Builtin.append_ #[22, 22] ty #[.slice (some g) 0 0, .slice B m c]).run Try.prog w = .ok (.slice A' m c') w' ∧ OwnI w' w.heap.size (.slice A' m c') news ∧ Ext w w' := by
  obtain ⟨A', c', w', h1, h2, h3⟩ := app_more (Nat.le_refl _) (OwnI.nil w w.heap.size) hr hm hp (by omega) (c := c) ty
  obtain ⟨i, hi1, hz, hsz, hby⟩ := info_parts (P := Try.prog) (e := 3) (z := .int .i64 0) (size := 1) (bytes := 8) (by kernel_rfl)
  obtain ⟨ad, rfl, -, -⟩ := hr.num (by omega)
  have hc := hr.cells
  have hcs : ∀ j u, (news.map (Value.int .i64))[j]? = some u → w.cell? (ad.add j) = some u := by
    intro j u hu; obtain ⟨hj, rfl⟩ := List.getElem?_eq_some_iff.1 hu; rw [List.getElem_map]; exact hc j (by simpa using hj)
  have e1 := run_append_nil (P := Try.prog) (w := w) 22 ty 3 i (.int .i64 0) (by kernel_rfl) hi1 hz ad m c (news.map (Value.int .i64)) (by simp [hm, hsz]) hcs hp (by omega) (by rw [hby]; omega)
  have e2 := run_append_grow (P := Try.prog) (w := w) 22 ty 3 i (.int .i64 0) (by kernel_rfl) hi1 hz g 0 0 [] (by simp) (by simp) ad m c (news.map (Value.int .i64)) (by simp [hm, hsz]) hcs (by omega) (by omega) (by rw [hby]; exact growslice_fits (by omega) (by omega))
  rw [Nat.zero_add] at e2 h1 h2
  have e3 : (([] : List Value).toArray ++ (news.map (Value.int .i64)).toArray) = (news.map (Value.int .i64)).toArray := by simp
  rw [e3, ← e1, h1] at e2
  exact ⟨A', c', w', e2, by simpa using h2, h3 w rfl (Ext.rfl' w)⟩
theorem append_exec {a : Act} {o : Oper} (s x : Operand) {t1 t2 : TypeId} {v u r : Value} {w w' : World} (ho : o.op = Op.call { callee := Callee.builtin Builtin.append, args := #[s, x], argTypes := #[t1, t2] }) (hs : a.eval s = v) (hx : a.eval x = u)
    (hr : (Builtin.append_ #[t1, t2] o.type #[v, u]).run Try.prog w = .ok r w') : (execOp a.eval o).run Try.prog w = .ok (.value r) w' := by
  unfold execOp
  simp only [ho, resolve, invoke, builtin, Sem.run_bind, Sem.run_pure, Result.andThen_ok, List.map_toArray, List.map_cons, List.map_nil, hs, hx, hr]
theorem lexB_at : ∀ {x y : List Int} (k : Nat), k < x.length → k < y.length → x.take k = y.take k → num x k ≠ num y k → lexB x y = decide (num x k < num y k)
  | [], _, k, h, _, _, _ => by simp at h
  | _ :: _, [], k, _, h, _, _ => by simp at h
  | a :: x, b :: y, 0, _, _, _, h => by
    unfold lexB
    have : ¬ a = b := h
    rw [if_neg this]; rfl
  | a :: x, b :: y, k + 1, h1, h2, h3, h4 => by
    unfold lexB
    simp only [List.take_succ_cons, List.cons.injEq] at h3
    rw [if_pos h3.1]
    exact lexB_at k (by simpa using h1) (by simpa using h2) h3.2 h4
theorem lexB_end : ∀ {x y : List Int} (k : Nat), k = min x.length y.length → x.take k = y.take k → lexB x y = decide (x.length < y.length)
  | [], [], _, _, _ => rfl
  | [], _ :: _, _, _, _ => by simp [lexB]
  | _ :: _, [], _, _, _ => by simp [lexB]
  | a :: x, b :: y, k, h1, h3 => by
    obtain ⟨m, rfl⟩ : ∃ m, k = m + 1 := ⟨k - 1, by simp at h1; omega⟩
    unfold lexB
    simp only [List.take_succ_cons, List.cons.injEq] at h3
    rw [if_pos h3.1, lexB_end m (by simp at h1; omega) h3.2]
    simp
set_option maxRecDepth 100000 in
set_option maxHeartbeats 8000000 in
theorem before33_ok (w : World) (i j : Inst) (z y : IPtr) (hi : RInstP w i z) (hj : RInstP w j y) (p1 : 0 < i.cells.length) (p2 : 0 < i.symbols.length) (p3 : 0 < j.cells.length) (p4 : 0 < j.symbols.length) (s1 : i.cells.length + i.symbols.length ≤ 1000) (s2 : j.cells.length + j.symbols.length ≤ 1000) :
    Calls Try.prog 20 #[instW i z, instW j y] w fun e w' => e = .returned (.bool (beforeB i j)) ∧ Ext w w' := by
  obtain ⟨n, ci, si⟩ := i
  obtain ⟨m, cj, sj⟩ := j
  obtain ⟨A, a, B, b⟩ := z
  obtain ⟨C, c, D, d⟩ := y
  have x0 := ((Ext.rfl' w).al (instC n ci si A a B b)).al (instC m cj sj C c D d)
  have h1 := hi.cells
  have h2 := hi.symbols
  have h3 := hj.cells
  have h4 := hj.symbols
  dsimp only at h1 h2 h3 h4 p1 p2 p3 p4 s1 s2
  clear hi hj
  have F : ∀ V, Ext ((w.alloc (instC n ci si A a B b)).alloc (instC m cj sj C c D d)) V → V.cell? ⟨w.heap.size, 0, none⟩ = some (.int .i64 n) ∧ V.cell? ⟨w.heap.size, 1, none⟩ = some (.slice A ci.length a) ∧ V.cell? ⟨w.heap.size, 2, none⟩ = some (.slice B si.length b) ∧
      V.cell? ⟨w.heap.size + 1, 0, none⟩ = some (.int .i64 m) ∧ V.cell? ⟨w.heap.size + 1, 1, none⟩ = some (.slice C cj.length c) ∧ V.cell? ⟨w.heap.size + 1, 2, none⟩ = some (.slice D sj.length d) := fun V hV => by
    have y1 := ((Ext.rfl' (w.alloc (instC n ci si A a B b))).al (instC m cj sj C c D d)).tr hV
    exact ⟨boxE y1 rfl 0 _ rfl, boxE y1 rfl 1 _ rfl, boxE y1 rfl 2 _ rfl, boxE hV (by simp) 0 _ rfl, boxE hV (by simp) 1 _ rfl, boxE hV (by simp) 2 _ rfl⟩
  have HF := hid F; clear F
  obtain ⟨f0, f1, f2, f3, f4, f5⟩ := HF.out _ (Ext.rfl' _)
  by_cases hn : n = m
  rotate_left
  · have hne : (n != m) = true := by rw [bne_iff_ne]; exact hn
    have Hr := hid (show beforeB ⟨n, ci, si⟩ ⟨m, cj, sj⟩ = decide (n < m) by unfold beforeB; rw [if_neg hn])
    clear hn
    go_enter Try.func20, Try.ntmps20
    go_wp2_with fail
    go_ret
    exact ⟨ret_bool Hr.out.symm, x0⟩
  have hne : (n != m) = false := by rw [bne_eq_false_iff_eq]; exact hn
  have Hr := hid (show beforeB ⟨n, ci, si⟩ ⟨m, cj, sj⟩ = lexB (ci ++ si) (cj ++ sj) by unfold beforeB; rw [if_pos hn])
  clear hn
  go_enter Try.func20, Try.ntmps20
  go_upto_region 3 with fail
  go_cut [5, 6] (fun s t wx => ∃ X xc Y yc, s = .slice X (ci.length + si.length) xc ∧ t = .slice Y (cj.length + sj.length) yc ∧ RInts wx X (ci ++ si) ∧ RInts wx Y (cj ++ sj) ∧ Ext ((w.alloc (instC n ci si A a B b)).alloc (instC m cj sj C c D d)) wx)
  case first =>
    clear f0 f1 f2 f3 f4 f5
    refine wp_regionB (Ext ((w.alloc (instC n ci si A a B b)).alloc (instC m cj sj C c D d))) (by kernel_rfl) ?_
    have xb : Ext ((w.alloc (instC n ci si A a B b)).alloc (instC m cj sj C c D d)) { (w.alloc (instC n ci si A a B b)).alloc (instC m cj sj C c D d) with drawn := ((w.alloc (instC n ci si A a B b)).alloc (instC m cj sj C c D d)).drawn + 1 } := (Ext.rfl' _).dr
    generalize hwb : ({ (w.alloc (instC n ci si A a B b)).alloc (instC m cj sj C c D d) with drawn := ((w.alloc (instC n ci si A a B b)).alloc (instC m cj sj C c D d)).drawn + 1 } : World) = wb at xb ⊢
    clear hwb
    (refine anyB_take (i := 1) (v := ?_) rfl (by kernel_rfl) (by kernel_rfl) (by kernel_rfl) (fun _ _ _ h => h) xb (.inl ⟨by rfl, ?_⟩) ?_); rotate_left; (focus (intro W hx; obtain ⟨f0, f1, f2, f3, f4, f5⟩ := HF.out W hx; go_simp; all_goals rfl)); intro K hK; go_simp; apply hK; clear hK K
    (refine anyB_take (i := 2) (v := ?_) rfl (by kernel_rfl) (by kernel_rfl) (by kernel_rfl) (fun _ _ _ h => h) xb (.inl ⟨by rfl, ?_⟩) ?_); rotate_left; (focus (intro W hx; obtain ⟨f0, f1, f2, f3, f4, f5⟩ := HF.out W hx; go_simp; all_goals rfl)); intro K hK; go_simp; apply hK; clear hK K
    (refine anyB_take (i := 4) (v := ?_) rfl (by kernel_rfl) (by kernel_rfl) (by kernel_rfl) (fun _ _ _ h => h) xb (.inl ⟨by rfl, ?_⟩) ?_); rotate_left; (focus (intro W hx; obtain ⟨f0, f1, f2, f3, f4, f5⟩ := HF.out W hx; go_simp; all_goals rfl)); intro K hK; go_simp; apply hK; clear hK K
    (refine anyB_take (i := 5) (v := ?_) rfl (by kernel_rfl) (by kernel_rfl) (by kernel_rfl) (fun _ _ _ h => h) xb (.inl ⟨by rfl, ?_⟩) ?_); rotate_left; (focus (intro W hx; obtain ⟨f0, f1, f2, f3, f4, f5⟩ := HF.out W hx; go_simp; all_goals rfl)); intro K hK; go_simp; apply hK; clear hK K
    (refine anyB_take (i := 8) (v := ?_) rfl (by kernel_rfl) (by kernel_rfl) (by kernel_rfl) (fun _ _ _ h => h) xb (.inl ⟨by rfl, ?_⟩) ?_); rotate_left; (focus (intro W hx; obtain ⟨f0, f1, f2, f3, f4, f5⟩ := HF.out W hx; go_simp; all_goals rfl)); intro K hK; go_simp; apply hK; clear hK K
    (refine anyB_take (i := 9) (v := ?_) rfl (by kernel_rfl) (by kernel_rfl) (by kernel_rfl) (fun _ _ _ h => h) xb (.inl ⟨by rfl, ?_⟩) ?_); rotate_left; (focus (intro W hx; obtain ⟨f0, f1, f2, f3, f4, f5⟩ := HF.out W hx; go_simp; all_goals rfl)); intro K hK; go_simp; apply hK; clear hK K
    (refine anyB_take (i := 11) (v := ?_) rfl (by kernel_rfl) (by kernel_rfl) (by kernel_rfl) (fun _ _ _ h => h) xb (.inl ⟨by rfl, ?_⟩) ?_); rotate_left; (focus (intro W hx; obtain ⟨f0, f1, f2, f3, f4, f5⟩ := HF.out W hx; go_simp; all_goals rfl)); intro K hK; go_simp; apply hK; clear hK K
    (refine anyB_take (i := 12) (v := ?_) rfl (by kernel_rfl) (by kernel_rfl) (by kernel_rfl) (fun _ _ _ h => h) xb (.inl ⟨by rfl, ?_⟩) ?_); rotate_left; (focus (intro W hx; obtain ⟨f0, f1, f2, f3, f4, f5⟩ := HF.out W hx; go_simp; all_goals rfl)); intro K hK; go_simp; apply hK; clear hK K
    refine anyB_each (rs := [0, 7]) (by kernel_rfl) (by simp) ⟨?_, ?_, trivial⟩
    · (refine opB_step rfl rfl (.slice (some ⟨wb.heap.size, 0, none⟩) 0 0) (wb.alloc (.cells #[] 3)) (by go_simp) ((xb).al _) ?_); intro K hK; go_simp; apply hK; clear hK K
      obtain ⟨V1, hV1⟩ : ∃ V9, wb.alloc (.cells #[] 3) = V9 := ⟨_, rfl⟩
      have x1 : Ext wb V1 := by rw [← hV1]; exact (Ext.rfl' _).al _
      rw [hV1]
      clear hV1
      refine anyB_each (rs := [3, 7]) (by kernel_rfl) (by simp) ⟨?_, ?_, trivial⟩
      · obtain ⟨X2, c2, V2, r2, o2, x2⟩ := app_first ⟨wb.heap.size, 0, none⟩ (h1.to (x0.tr ((xb).tr x1))) rfl p1 (by omega) 22
        (refine opB_step rfl rfl (.slice X2 ci.length c2) (V2) (append_exec (.tmp 18) (.tmp 20) rfl rfl rfl r2) (((xb).tr x1).tr x2) ?_); intro K hK; go_simp; apply hK; clear hK K
        refine anyB_each (rs := [6, 7]) (by kernel_rfl) (by simp) ⟨?_, ?_, trivial⟩
        · obtain ⟨X3, c3, V3, r3, o3, g3⟩ := app_more ((x2).size) (o2) (h2.to (x0.tr (((xb).tr x1).tr x2))) rfl p2 (by omega) 22
          have x3 := g3 V1 rfl (x2)
          (refine opB_step rfl rfl (.slice X3 (ci.length + si.length) c3) (V3) (append_exec (.tmp 21) (.tmp 23) rfl rfl rfl r3) (((xb).tr x1).tr x3) ?_); intro K hK; go_simp; apply hK; clear hK K
          refine anyB_each (rs := [7]) (by kernel_rfl) (by simp) ⟨?_, trivial⟩
          (refine opB_step rfl rfl (.slice (some ⟨V3.heap.size, 0, none⟩) 0 0) (V3.alloc (.cells #[] 3)) (by go_simp) ((((xb).tr x1).tr x3).al _) ?_); intro K hK; go_simp; apply hK; clear hK K
          obtain ⟨V4, hV4⟩ : ∃ V9, V3.alloc (.cells #[] 3) = V9 := ⟨_, rfl⟩
          have x4 : Ext V3 V4 := by rw [← hV4]; exact (Ext.rfl' _).al _
          rw [hV4]
          clear hV4
          refine anyB_each (rs := [10]) (by kernel_rfl) (by simp) ⟨?_, trivial⟩
          obtain ⟨X5, c5, V5, r5, o5, x5⟩ := app_first ⟨V3.heap.size, 0, none⟩ (h3.to (x0.tr ((((xb).tr x1).tr x3).tr x4))) rfl p3 (by omega) 22
          (refine opB_step rfl rfl (.slice X5 cj.length c5) (V5) (append_exec (.tmp 25) (.tmp 27) rfl rfl rfl r5) (((((xb).tr x1).tr x3).tr x4).tr x5) ?_); intro K hK; go_simp; apply hK; clear hK K
          refine anyB_each (rs := [13]) (by kernel_rfl) (by simp) ⟨?_, trivial⟩
          obtain ⟨X6, c6, V6, r6, o6, g6⟩ := app_more ((x5).size) (o5) (h4.to (x0.tr (((((xb).tr x1).tr x3).tr x4).tr x5))) rfl p4 (by omega) 22
          have x6 := g6 V4 rfl (x5)
          (refine opB_step rfl rfl (.slice X6 (cj.length + sj.length) c6) (V6) (append_exec (.tmp 28) (.tmp 30) rfl rfl rfl r6) (((((xb).tr x1).tr x3).tr x4).tr x6) ?_); intro K hK; go_simp; apply hK; clear hK K
          refine anyB_each (rs := [14]) (by kernel_rfl) (by simp) ⟨?_, trivial⟩
          (refine opB_step rfl rfl (_) (_) (by go_simp; rfl) (((((xb).tr x1).tr x3).tr x4).tr x6) ?_); intro K hK; go_simp; apply hK; clear hK K
          refine anyB_each (rs := [15]) (by kernel_rfl) (by simp) ⟨?_, trivial⟩
          (refine opB_step rfl rfl (_) (_) (by go_simp; rfl) (((((xb).tr x1).tr x3).tr x4).tr x6) ?_); intro K hK; go_simp; apply hK; clear hK K
          refine anyB_done (by kernel_rfl) ?_
          go_wp2_with fail
          go_meet
          case rel => exact ⟨_, _, _, _, rfl, rfl, (((o3).to x4).to x6).ints, (o6).ints, ((((xb).tr x1).tr x3).tr x4).tr x6⟩
        · (refine opB_step rfl rfl (.slice (some ⟨V2.heap.size, 0, none⟩) 0 0) (V2.alloc (.cells #[] 3)) (by go_simp) ((((xb).tr x1).tr x2).al _) ?_); intro K hK; go_simp; apply hK; clear hK K
          obtain ⟨V9, hV9⟩ : ∃ V9, V2.alloc (.cells #[] 3) = V9 := ⟨_, rfl⟩
          have x9 : Ext V2 V9 := by rw [← hV9]; exact (Ext.rfl' _).al _
          rw [hV9]
          clear hV9
          refine anyB_each (rs := [6]) (by kernel_rfl) (by simp) ⟨?_, trivial⟩
          obtain ⟨X10, c10, V10, r10, o10, g10⟩ := app_more (((x2).tr x9).size) ((o2).to x9) (h2.to (x0.tr ((((xb).tr x1).tr x2).tr x9))) rfl p2 (by omega) 22
          have x10 := g10 V1 rfl ((x2).tr x9)
          (refine opB_step rfl rfl (.slice X10 (ci.length + si.length) c10) (V10) (append_exec (.tmp 21) (.tmp 23) rfl rfl rfl r10) (((xb).tr x1).tr x10) ?_); intro K hK; go_simp; apply hK; clear hK K
          refine anyB_each (rs := [10]) (by kernel_rfl) (by simp) ⟨?_, trivial⟩
          obtain ⟨X11, c11, V11, r11, o11, x11⟩ := app_first ⟨V2.heap.size, 0, none⟩ (h3.to (x0.tr (((xb).tr x1).tr x10))) rfl p3 (by omega) 22
          (refine opB_step rfl rfl (.slice X11 cj.length c11) (V11) (append_exec (.tmp 25) (.tmp 27) rfl rfl rfl r11) ((((xb).tr x1).tr x10).tr x11) ?_); intro K hK; go_simp; apply hK; clear hK K
          refine anyB_each (rs := [13]) (by kernel_rfl) (by simp) ⟨?_, trivial⟩
          obtain ⟨X12, c12, V12, r12, o12, g12⟩ := app_more ((x11).size) (o11) (h4.to (x0.tr ((((xb).tr x1).tr x10).tr x11))) rfl p4 (by omega) 22
          have x12 := g12 V10 rfl (x11)
          (refine opB_step rfl rfl (.slice X12 (cj.length + sj.length) c12) (V12) (append_exec (.tmp 28) (.tmp 30) rfl rfl rfl r12) ((((xb).tr x1).tr x10).tr x12) ?_); intro K hK; go_simp; apply hK; clear hK K
          refine anyB_each (rs := [14]) (by kernel_rfl) (by simp) ⟨?_, trivial⟩
          (refine opB_step rfl rfl (_) (_) (by go_simp; rfl) ((((xb).tr x1).tr x10).tr x12) ?_); intro K hK; go_simp; apply hK; clear hK K
          refine anyB_each (rs := [15]) (by kernel_rfl) (by simp) ⟨?_, trivial⟩
          (refine opB_step rfl rfl (_) (_) (by go_simp; rfl) ((((xb).tr x1).tr x10).tr x12) ?_); intro K hK; go_simp; apply hK; clear hK K
          refine anyB_done (by kernel_rfl) ?_
          go_wp2_with fail
          go_meet
          case rel => exact ⟨_, _, _, _, rfl, rfl, ((o10).to x12).ints, (o12).ints, (((xb).tr x1).tr x10).tr x12⟩
      · (refine opB_step rfl rfl (.slice (some ⟨V1.heap.size, 0, none⟩) 0 0) (V1.alloc (.cells #[] 3)) (by go_simp) (((xb).tr x1).al _) ?_); intro K hK; go_simp; apply hK; clear hK K
        obtain ⟨V15, hV15⟩ : ∃ V9, V1.alloc (.cells #[] 3) = V9 := ⟨_, rfl⟩
        have x15 : Ext V1 V15 := by rw [← hV15]; exact (Ext.rfl' _).al _
        rw [hV15]
        clear hV15
        refine anyB_each (rs := [3]) (by kernel_rfl) (by simp) ⟨?_, trivial⟩
        obtain ⟨X16, c16, V16, r16, o16, x16⟩ := app_first ⟨wb.heap.size, 0, none⟩ (h1.to (x0.tr (((xb).tr x1).tr x15))) rfl p1 (by omega) 22
        (refine opB_step rfl rfl (.slice X16 ci.length c16) (V16) (append_exec (.tmp 18) (.tmp 20) rfl rfl rfl r16) ((((xb).tr x1).tr x15).tr x16) ?_); intro K hK; go_simp; apply hK; clear hK K
        refine anyB_each (rs := [6]) (by kernel_rfl) (by simp) ⟨?_, trivial⟩
        obtain ⟨X17, c17, V17, r17, o17, g17⟩ := app_more ((x16).size) (o16) (h2.to (x0.tr ((((xb).tr x1).tr x15).tr x16))) rfl p2 (by omega) 22
        have x17 := g17 V15 rfl (x16)
        (refine opB_step rfl rfl (.slice X17 (ci.length + si.length) c17) (V17) (append_exec (.tmp 21) (.tmp 23) rfl rfl rfl r17) ((((xb).tr x1).tr x15).tr x17) ?_); intro K hK; go_simp; apply hK; clear hK K
        refine anyB_each (rs := [10]) (by kernel_rfl) (by simp) ⟨?_, trivial⟩
        obtain ⟨X18, c18, V18, r18, o18, x18⟩ := app_first ⟨V1.heap.size, 0, none⟩ (h3.to (x0.tr ((((xb).tr x1).tr x15).tr x17))) rfl p3 (by omega) 22
        (refine opB_step rfl rfl (.slice X18 cj.length c18) (V18) (append_exec (.tmp 25) (.tmp 27) rfl rfl rfl r18) (((((xb).tr x1).tr x15).tr x17).tr x18) ?_); intro K hK; go_simp; apply hK; clear hK K
        refine anyB_each (rs := [13]) (by kernel_rfl) (by simp) ⟨?_, trivial⟩
        obtain ⟨X19, c19, V19, r19, o19, g19⟩ := app_more ((x18).size) (o18) (h4.to (x0.tr (((((xb).tr x1).tr x15).tr x17).tr x18))) rfl p4 (by omega) 22
        have x19 := g19 V17 rfl (x18)
        (refine opB_step rfl rfl (.slice X19 (cj.length + sj.length) c19) (V19) (append_exec (.tmp 28) (.tmp 30) rfl rfl rfl r19) (((((xb).tr x1).tr x15).tr x17).tr x19) ?_); intro K hK; go_simp; apply hK; clear hK K
        refine anyB_each (rs := [14]) (by kernel_rfl) (by simp) ⟨?_, trivial⟩
        (refine opB_step rfl rfl (_) (_) (by go_simp; rfl) (((((xb).tr x1).tr x15).tr x17).tr x19) ?_); intro K hK; go_simp; apply hK; clear hK K
        refine anyB_each (rs := [15]) (by kernel_rfl) (by simp) ⟨?_, trivial⟩
        (refine opB_step rfl rfl (_) (_) (by go_simp; rfl) (((((xb).tr x1).tr x15).tr x17).tr x19) ?_); intro K hK; go_simp; apply hK; clear hK K
        refine anyB_done (by kernel_rfl) ?_
        go_wp2_with fail
        go_meet
        case rel => exact ⟨_, _, _, _, rfl, rfl, ((o17).to x19).ints, (o19).ints, ((((xb).tr x1).tr x15).tr x17).tr x19⟩
    · (refine opB_step rfl rfl (.slice (some ⟨wb.heap.size, 0, none⟩) 0 0) (wb.alloc (.cells #[] 3)) (by go_simp) ((xb).al _) ?_); intro K hK; go_simp; apply hK; clear hK K
      obtain ⟨V22, hV22⟩ : ∃ V9, wb.alloc (.cells #[] 3) = V9 := ⟨_, rfl⟩
      have x22 : Ext wb V22 := by rw [← hV22]; exact (Ext.rfl' _).al _
      rw [hV22]
      clear hV22
      refine anyB_each (rs := [0]) (by kernel_rfl) (by simp) ⟨?_, trivial⟩
      (refine opB_step rfl rfl (.slice (some ⟨V22.heap.size, 0, none⟩) 0 0) (V22.alloc (.cells #[] 3)) (by go_simp) (((xb).tr x22).al _) ?_); intro K hK; go_simp; apply hK; clear hK K
      obtain ⟨V23, hV23⟩ : ∃ V9, V22.alloc (.cells #[] 3) = V9 := ⟨_, rfl⟩
      have x23 : Ext V22 V23 := by rw [← hV23]; exact (Ext.rfl' _).al _
      rw [hV23]
      clear hV23
      refine anyB_each (rs := [3]) (by kernel_rfl) (by simp) ⟨?_, trivial⟩
      obtain ⟨X24, c24, V24, r24, o24, x24⟩ := app_first ⟨V22.heap.size, 0, none⟩ (h1.to (x0.tr (((xb).tr x22).tr x23))) rfl p1 (by omega) 22
      (refine opB_step rfl rfl (.slice X24 ci.length c24) (V24) (append_exec (.tmp 18) (.tmp 20) rfl rfl rfl r24) ((((xb).tr x22).tr x23).tr x24) ?_); intro K hK; go_simp; apply hK; clear hK K
      refine anyB_each (rs := [6]) (by kernel_rfl) (by simp) ⟨?_, trivial⟩
      obtain ⟨X25, c25, V25, r25, o25, g25⟩ := app_more ((x24).size) (o24) (h2.to (x0.tr ((((xb).tr x22).tr x23).tr x24))) rfl p2 (by omega) 22
      have x25 := g25 V23 rfl (x24)
      (refine opB_step rfl rfl (.slice X25 (ci.length + si.length) c25) (V25) (append_exec (.tmp 21) (.tmp 23) rfl rfl rfl r25) ((((xb).tr x22).tr x23).tr x25) ?_); intro K hK; go_simp; apply hK; clear hK K
      refine anyB_each (rs := [10]) (by kernel_rfl) (by simp) ⟨?_, trivial⟩
      obtain ⟨X26, c26, V26, r26, o26, x26⟩ := app_first ⟨wb.heap.size, 0, none⟩ (h3.to (x0.tr ((((xb).tr x22).tr x23).tr x25))) rfl p3 (by omega) 22
      (refine opB_step rfl rfl (.slice X26 cj.length c26) (V26) (append_exec (.tmp 25) (.tmp 27) rfl rfl rfl r26) (((((xb).tr x22).tr x23).tr x25).tr x26) ?_); intro K hK; go_simp; apply hK; clear hK K
      refine anyB_each (rs := [13]) (by kernel_rfl) (by simp) ⟨?_, trivial⟩
      obtain ⟨X27, c27, V27, r27, o27, g27⟩ := app_more ((x26).size) (o26) (h4.to (x0.tr (((((xb).tr x22).tr x23).tr x25).tr x26))) rfl p4 (by omega) 22
      have x27 := g27 V25 rfl (x26)
      (refine opB_step rfl rfl (.slice X27 (cj.length + sj.length) c27) (V27) (append_exec (.tmp 28) (.tmp 30) rfl rfl rfl r27) (((((xb).tr x22).tr x23).tr x25).tr x27) ?_); intro K hK; go_simp; apply hK; clear hK K
      refine anyB_each (rs := [14]) (by kernel_rfl) (by simp) ⟨?_, trivial⟩
      (refine opB_step rfl rfl (_) (_) (by go_simp; rfl) (((((xb).tr x22).tr x23).tr x25).tr x27) ?_); intro K hK; go_simp; apply hK; clear hK K
      refine anyB_each (rs := [15]) (by kernel_rfl) (by simp) ⟨?_, trivial⟩
      (refine opB_step rfl rfl (_) (_) (by go_simp; rfl) (((((xb).tr x22).tr x23).tr x25).tr x27) ?_); intro K hK; go_simp; apply hK; clear hK K
      refine anyB_done (by kernel_rfl) ?_
      go_wp2_with fail
      go_meet
      case rel => exact ⟨_, _, _, _, rfl, rfl, ((o25).to x27).ints, (o27).ints, ((((xb).tr x22).tr x23).tr x25).tr x27⟩
  case rest =>
    obtain ⟨X, xc, Y, yc, rfl, rfl, hX, hY, hb⟩ := hcut
    clear f0 f1 f2 f3 f4 f5 HF h1 h2 h3 h4 hne
    obtain ⟨L, hL⟩ : ∃ L, ci ++ si = L := ⟨_, rfl⟩
    obtain ⟨M, hM⟩ : ∃ M, cj ++ sj = M := ⟨_, rfl⟩
    have l1 : ci.length + si.length = L.length := by rw [← hL, List.length_append]
    have l2 : cj.length + sj.length = M.length := by rw [← hM, List.length_append]
    rw [hL] at hX Hr
    rw [hM] at hY Hr
    rw [l1, l2]
    rw [l1] at s1
    rw [l2] at s2
    clear hL hM l1 l2 p1 p2 p3 p4
    go_wp2_with fail
    go_loopw [7, 37] (fun _ i wr => ∃ k : Nat, k ≤ L.length ∧ k ≤ M.length ∧ i = .int .i64 k ∧ L.take k = M.take k ∧ Ext wc wr) (fun _ i _ => L.length - (intOf i).toNat)
    case atStart => exact ⟨0, Nat.zero_le _, Nat.zero_le _, rfl, rfl, Ext.rfl' _⟩
    case round =>
      obtain ⟨k, hk, hk2, rfl, htk, hx⟩ := hrel
      by_cases hlt : k < L.length ∧ k < M.length
      · obtain ⟨ha, hbm⟩ := hlt
        obtain ⟨ad, rfl, hab, hca, _⟩ := hX.num (by omega)
        obtain ⟨bd, rfl, hbb, hcb, _⟩ := hY.num (by omega)
        have F : ∀ V, Ext wr V → V.cell? (ad.add k) = some (.int .i64 (num L k)) ∧ V.cell? (bd.add k) = some (.int .i64 (num M k)) :=
          fun V hV => ⟨cellE (hx.tr hV) (hca k ha) (by rw [block_of_add]; exact hab), cellE (hx.tr hV) (hcb k hbm) (by rw [block_of_add]; exact hbb)⟩
        have HG := hid F; clear F hca hcb
        have hlt : (k : Int) < min (L.length : Int) M.length := by omega
        have Htk := hid htk; clear htk
        go_wp2_with fail
        (refine wp_region_sf (fun _ => none) (by kernel_rfl) (by kernel_rfl) ?_); (repeat (first | (refine wpE_skipK ?_ ?_; (focus ((first | refine wanted_notF rfl rfl ?_ | refine wanted_notT rfl rfl ?_); (focus (simp only [List.getElem?_toArray, List.getElem?_cons_succ, List.getElem?_cons_zero]; done)))); intro K hK; go_simp; apply hK; clear hK K; (have hq9 : True := trivial); clear hq9) | (refine wpE_detN rfl rfl (fun K hK => ?_); apply Exists.intro; apply And.intro; (focus (rintro W ⟨hx, -⟩; obtain ⟨f0, f1⟩ := HG.out W hx; go_simp; all_goals rfl)); go_simp; apply hK; clear hK K; (have hq9 : True := trivial); clear hq9) | (refine wpE_detK rfl ?_ ?_; (focus (refine wanted_so rfl rfl ?_; (focus (simp only [List.getElem?_toArray, List.getElem?_cons_succ, List.getElem?_cons_zero]; done)))); intro K hK; apply Exists.intro; apply And.intro; (focus (rintro W ⟨hx, -⟩; obtain ⟨f0, f1⟩ := HG.out W hx; go_simp; all_goals rfl)); go_simp; apply hK; clear hK K; (have hq9 : True := trivial); clear hq9))); (apply wpE_nil); (rintro W ⟨hW, hG⟩); clear hG
        have HG2 : Hid (∀ V, Ext W V → V.cell? (ad.add k) = some (.int .i64 (num L k)) ∧ V.cell? (bd.add k) = some (.int .i64 (num M k))) := hid fun V hV => HG.out V (hW.tr hV)
        by_cases he : num L k = num M k
        · have hbe : (num L k != num M k) = false := by rw [bne_eq_false_iff_eq]; exact he
          have hts : L.take (k + 1) = M.take (k + 1) := by
            rw [List.take_succ_eq_append_getElem ha, List.take_succ_eq_append_getElem hbm, Htk.out, ← num_eq ha, ← num_eq hbm, he]
          have Hts := hid hts; clear hts he
          go_wp2_with fail
          go_roundw
          case rel => exact ⟨k + 1, by omega, by omega, by go_num, Hts.out, hx.tr hW⟩
          case measure => simp [intOf]; omega
        · have hbe : (num L k != num M k) = true := by rw [bne_iff_ne]; exact he
          have hr := lexB_at k ha hbm Htk.out he
          have Hr2 := hid (Hr.out.trans hr); clear he hr
          obtain ⟨W5, hW5⟩ : ∃ W5, W = W5 := ⟨_, rfl⟩
          have hW6 := hW
          rw [hW5] at hW6 HG2 ⊢
          clear hW hW5
          go_wp2_with fail
          (refine wp_region_sf (fun _ => none) (by kernel_rfl) (by kernel_rfl) ?_); (repeat (first | (refine wpE_skipK ?_ ?_; (focus ((first | refine wanted_notF rfl rfl ?_ | refine wanted_notT rfl rfl ?_); (focus (simp only [List.getElem?_toArray, List.getElem?_cons_succ, List.getElem?_cons_zero]; done)))); intro K hK; go_simp; apply hK; clear hK K; (have hq9 : True := trivial); clear hq9) | (refine wpE_detN rfl rfl (fun K hK => ?_); apply Exists.intro; apply And.intro; (focus (rintro W ⟨hx, -⟩; obtain ⟨f0, f1⟩ := HG2.out W hx; go_simp; all_goals rfl)); go_simp; apply hK; clear hK K; (have hq9 : True := trivial); clear hq9) | (refine wpE_detK rfl ?_ ?_; (focus (refine wanted_so rfl rfl ?_; (focus (simp only [List.getElem?_toArray, List.getElem?_cons_succ, List.getElem?_cons_zero]; done)))); intro K hK; apply Exists.intro; apply And.intro; (focus (rintro W ⟨hx, -⟩; obtain ⟨f0, f1⟩ := HG2.out W hx; go_simp; all_goals rfl)); go_simp; apply hK; clear hK K; (have hq9 : True := trivial); clear hq9))); (apply wpE_nil); (rintro W ⟨hW, hG⟩); clear hG
          go_wp2_with fail
          go_ret
          exact ⟨ret_bool Hr2.out.symm, x0.tr (hb.tr (hx.tr (hW6.tr hW)))⟩
      · have hlt2 : ¬ (k : Int) < min (L.length : Int) M.length := by omega
        have hr := lexB_end k (by omega) htk
        have Hr2 := hid (Hr.out.trans hr); clear htk hr
        go_wp2_with fail
        go_ret
        refine ⟨ret_bool ?_, x0.tr (hb.tr hx)⟩
        rw [Hr2.out]
end Go.Proofs.Ytimkijmjbnmcbaa
