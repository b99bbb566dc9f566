/- Contract: the matcher is made. Contract: whether some constraint of a kind contains cells and satisfies a condition. Contracts: the methods of the matcher that ask for a constraint: different, apart, rise, near. Contracts: the methods of the matcher: quota. Contracts: quota's own frame; elements picked from a list. Contracts: the methods of the matcher: different, home. Contracts: the methods of the matcher: home. Contract: a list is copied. -/
import Derived.Deep.RegionHeld3
import Derived.Deep.DrawnRows
import Derived.Test.YtimkijmjbnmcbaaGreatYm13
import Derived.Test.YtimkijmjbnmcbaaGreatYm14
import Derived.Test.YtimkijmjbnmcbaaGreatYm11
namespace Go.Proofs.YtimkijmjbnmcbaaGreat
open Go Go.RowKit
attribute [local go_sem ↓] Go.wp_at_zero Go.wp_at_succ
/-- 'append' of one integer to an owned list. -/
theorem app_g1 {ops : Array Oper} {rest : List Oper} {o : Oper} {a : Act} {Q : Exit → Act → World → Prop} {w : World} (base : Nat) (hbase : base ≤ w.heap.size) (hgd : o.guard = none) (s x : Operand) (ho : o.op = Op.call { callee := Callee.builtin Builtin.append, args := #[s, x], argTypes := #[22, 22] })
    (T : TSet) (A : Option Addr) (n c0 : Nat) (l : List Int) (hs : a.eval s = .slice A n c0) (hown : OwnG EInt w base T A n c0 l) (g : Nat) (v : Int) (hx : a.eval x = .slice (some ⟨g, 0, none⟩) 1 1) (hc : w.cell? ⟨g, 0, none⟩ = some (.int .i64 v)) (hv : I64 v) (hl : n < 17592186044416)
    (h : ∀ (A' : Option Addr) (c' : Nat) (w' : World), Grew EInt w base T A A' (n + 1) c' (l ++ [v]) w' → wpList Tryz.prog ops Q rest (a.put o.dst (.slice A' (n + 1) c')) w') :
    wpList Tryz.prog ops Q (o :: rest) a w :=
  app_g EInt base hbase hgd s x ho T A n c0 l hs hown ⟨g, 0, none⟩ 1 1 hx [v] [[.int .i64 v]] rfl (lieInt _ _ [v] (by simpa using hv)) (by
    intro j u hu
    match j, hu with
    | 0, hu => simp at hu; subst hu; simpa [Addr.add] using hc) (by show (n + 1) * 8 ≤ _; omega) (by simp [maxLen]; omega) h
/-- The same at a step of a region that draws its order. -/
theorem step_g1 {ops : Array Oper} {o : Oper} {a : Act} {K : Act → World → Prop} {Q : Exit → Act → World → Prop} {E : Prop} {w : World} (base : Nat) (hbase : base ≤ w.heap.size) (hgd : o.guard = none) (s x : Operand) (ho : o.op = Op.call { callee := Callee.builtin Builtin.append, args := #[s, x], argTypes := #[22, 22] })
    (T : TSet) (A : Option Addr) (n c0 : Nat) (l : List Int) (hs : a.eval s = .slice A n c0) (hown : OwnG EInt w base T A n c0 l) (g : Nat) (v : Int) (hx : a.eval x = .slice (some ⟨g, 0, none⟩) 1 1) (hc : w.cell? ⟨g, 0, none⟩ = some (.int .i64 v)) (hv : I64 v) (hl : n < 17592186044416)
    (h : ∀ (A' : Option Addr) (c' : Nat) (w' : World), Grew EInt w base T A A' (n + 1) c' (l ++ [v]) w' → K (a.put o.dst (.slice A' (n + 1) c')) w') :
    if Region.wanted o (yielded ops a.tmps) = true then Oper.wp Tryz.prog o a w K Q else E := by
  rw [if_pos (by simp [Region.wanted, hgd])]
  obtain ⟨A', c', w', hr, hg⟩ := grew_of EInt hbase hown (ad := ⟨g, 0, none⟩) (m := 1) (c := 1) (news := [v]) [[.int .i64 v]] rfl (lieInt _ _ [v] (by simpa using hv)) (by
    intro j u hu
    match j, hu with
    | 0, hu => simp at hu; subst hu; simpa [Addr.add] using hc) (by show (n + 1) * 8 ≤ _; omega) (by simp [maxLen]; omega) o.type
  have hr' : (Builtin.append_ #[22, 22] o.type #[.slice A n c0, .slice (some ⟨g, 0, none⟩) 1 1]).run Tryz.prog w = .ok (.slice A' (n + 1) c') w' := hr
  unfold Oper.wp execOp
  simp only [ho, resolve, invoke, builtin, Sem.run_bind, Sem.run_pure, Result.andThen_ok, List.map_toArray, List.map_cons, List.map_nil, hs, hx, hr']
  exact h A' c' w' hg
set_option maxHeartbeats 4000000 in
set_option maxRecDepth 100000 in
theorem mNew_k (w : World) (q : Problem) (p : PPtr) (P : Option Addr) (pn : Nat) (pos : List Int) (h : RProb w q p) (_ : RInts w P pos) (hc : ∀ c ∈ q.cons, c.cells.length ≤ 256) (hn : q.cons.length ≤ 4096) :
    Calls Tryz.prog 25 #[probV q p, .slice P pos.length pn] w (RetMK w q pos p P pn) := by
  obtain ⟨pa, pac, pb, pbc, pc, pcc⟩ := p
  have HC := hid hc; clear hc
  have hmm := @run_makeMap Tryz.prog
  go_enter Tryz.func25, Tryz.ntmps25
  go_wp2_with fail
  clear hmm
  obtain ⟨w0, hw0⟩ : ∃ w0, w.alloc (probO q ⟨pa, pac, pb, pbc, pc, pcc⟩) = w0 := ⟨_, rfl⟩
  have e0 : w0.heap.size = w.heap.size + 1 := by rw [← hw0]; simp
  have x0 : Ext w w0 := by rw [← hw0]; exact (Ext.rfl' _).al _
  obtain ⟨w1, hw1⟩ : ∃ w1, (w0.alloc (.map #[] 0)).alloc (.cells #[.int .i64 q.cells, .int .i64 q.symbols, .slice pa q.values.length pac, .slice pb q.neighbors.length pbc, .slice pc q.cons.length pcc, .slice P pos.length pn, .map (some (w.heap.size + 1))] 94) = w1 := ⟨_, rfl⟩
  rw [hw0, hw1]
  have x1 : Ext w0 w1 := by rw [← hw1]; exact ((Ext.rfl' _).al _).al _
  have e1 : w1.heap.size = w.heap.size + 3 := by rw [← hw1]; simp; omega
  have gm : GMap w1 (w.heap.size + 3) (w.heap.size + 1) (group (prs q 0)) (fun _ => none) (fun _ => 0) := by
    have := GMap.made w0 (w.heap.size + 3) (by omega)
    rw [e0] at this
    rw [← hw1]
    exact this.to ((Ext.rfl' _).al _)
  have bx : Blk w1 (w.heap.size + 2) 94 #[.int .i64 q.cells, .int .i64 q.symbols, .slice pa q.values.length pac, .slice pb q.neighbors.length pbc, .slice pc q.cons.length pcc, .slice P pos.length pn, .map (some (w.heap.size + 1))] := by
    have := Blk.new (w0.alloc (.map #[] 0)) 94 #[.int .i64 q.cells, .int .i64 q.symbols, .slice pa q.values.length pac, .slice pb q.neighbors.length pbc, .slice pc q.cons.length pcc, .slice P pos.length pn, .map (some (w.heap.size + 1))]
    rw [World.size_alloc, e0] at this
    rw [← hw1]
    exact this
  have hxp : Ext (w.alloc (probO q ⟨pa, pac, pb, pbc, pc, pcc⟩)) w1 := by rw [hw0]; exact x1
  obtain ⟨-, -, -, -, f4⟩ := probBox hxp rfl
  dsimp only at f4
  clear hw0 hw1
  go_wp2_with fail
  go_loopw [6, 7, 18] (fun _ _ i wr => ∃ (k : Nat) (A : Int → Option Addr) (c : Int → Nat), k ≤ q.cons.length ∧ i = .int .i64 k ∧ GMap wr (w.heap.size + 3) (w.heap.size + 1) (group (prs q k)) A c ∧
    Blk wr (w.heap.size + 2) 94 #[.int .i64 q.cells, .int .i64 q.symbols, .slice pa q.values.length pac, .slice pb q.neighbors.length pbc, .slice pc q.cons.length pcc, .slice P pos.length pn, .map (some (w.heap.size + 1))] ∧ Ext w0 wr) (fun _ _ i _ => q.cons.length - (intOf i).toNat)
  case atStart => exact ⟨0, _, _, Nat.zero_le _, rfl, gm, bx, x1⟩
  case round =>
    clear gm bx x1 hxp f4 e1
    obtain ⟨k, A, c, hk, rfl, gm, bx, hx⟩ := hrel
    obtain ⟨wo, rfl⟩ : ∃ wo : World, wo = wr := ⟨_, rfl⟩
    by_cases hlt : k < q.cons.length
    · obtain ⟨ad, B, b1, C, c1, hA, hab, r1, r2, -, y0, y1, y2, y3, y4, y5, y6, y7, y8⟩ := h.cons.consLoad k hlt
      have hb0 : (ad.add (k * 9)).block < w.heap.size := by rw [block_of_add]; exact hab
      obtain ⟨g0, g1, g2, g3, g4, g5, g6, g7, g8⟩ := ConsAt.keep (x0.tr hx) hb0 ⟨y0, y1, y2, y3, y4, y5, y6, y7, y8⟩
      clear y0 y1 y2 y3 y4 y5 y6 y7 y8
      dsimp only at hA
      subst hA
      have hcl := HC.out _ (List.getElem_mem hlt)
      have hpl := prs_len HC.out k (by omega)
      have hps := prs_succ hlt
      have Hps := hid hps; clear hps
      go_wp2_with fail
      obtain ⟨wi, hwi⟩ : ∃ wi, wo.alloc (consO q.cons[k] B b1 C c1) = wi := ⟨_, rfl⟩
      rw [hwi]
      have xi : Ext wo wi := by rw [← hwi]; exact (Ext.rfl' _).al _
      clear hwi
      go_loopw [9, 26] (fun _ i wv => ∃ (j : Nat) (A : Int → Option Addr) (c : Int → Nat), j ≤ q.cons[k].cells.length ∧ i = .int .i64 j ∧ GMap wv (w.heap.size + 3) (w.heap.size + 1) (group (prsI q k j)) A c ∧
        Blk wv (w.heap.size + 2) 94 #[.int .i64 q.cells, .int .i64 q.symbols, .slice pa q.values.length pac, .slice pb q.neighbors.length pbc, .slice (some ad) q.cons.length pcc, .slice P pos.length pn, .map (some (w.heap.size + 1))] ∧ Ext w0 wv) (fun _ i _ => q.cons[k].cells.length - (intOf i).toNat)
      case atStart => exact ⟨0, _, _, Nat.zero_le _, rfl, by rw [prsI_zero]; exact gm.to xi, bx.ext xi, hx.tr xi⟩
      case round =>
        clear gm bx
        obtain ⟨j, A, c, hj, rfl, gm, bx, hxv⟩ := hrel
        by_cases hlt2 : j < q.cons[k].cells.length
        · obtain ⟨bd, hB, hbb, hc, hy⟩ := (r1.to (x0.tr hxv)).at_ j hlt2
          subst hB
          have hlk := gm.look q.cons[k].cells[j]
          have hm6 := bx.cell 6
          simp only [List.getElem?_toArray, List.getElem?_cons_succ, List.getElem?_cons_zero] at hm6
          have hk1 := (gm.to ((Ext.rfl' _).dr)).look q.cons[k].cells[j]
          have hk2 := (gm.to (((Ext.rfl' _).al (.cells #[.int .i64 (k : Int)] 3)).dr)).look q.cons[k].cells[j]
          have oo := (gm.to (((Ext.rfl' _).al (.cells #[.int .i64 (k : Int)] 3)).dr)).own q.cons[k].cells[j]
          have hcb : ((wr.alloc (.cells #[.int .i64 (k : Int)] 3)).drew).cell? ⟨wr.heap.size, 0, none⟩ = some (.int .i64 (k : Int)) := (Blk.new wr 3 #[.int .i64 (k : Int)]).cell 0
          have Hcb := hid hcb; clear hcb
          have Hoo := hid oo; clear oo
          have hle := group_le (prsI q k j) q.cons[k].cells[j]
          have hle2 := prsI_len HC.out hlt hj
          have hlt3 : (group (prsI q k j) q.cons[k].cells[j]).length < 17592186044416 := by omega
          have Hlt3 := hid hlt3; clear hle hle2 hlt3
          have hsz : w.heap.size + 3 ≤ ((wr.alloc (.cells #[.int .i64 (k : Int)] 3)).drew).heap.size := by have := bx.lt; simp; omega
          have Hsz := hid hsz; clear hsz
          have hbl : w.heap.size + 2 < wr.heap.size := bx.lt
          have hnb : some (w.heap.size + 2) ≠ blockOf (A q.cons[k].cells[j]) := fun e => by have := ((gm.own _).lt _ e.symm).1; omega
          have Hnb := hid hnb; clear hnb
          go_wp2_with fail
          go_region_held3 (fun w' => w'.cell? ⟨w.heap.size + 2, 6, none⟩ = some (.map (some (w.heap.size + 1))))
            (first
              | go_keep
              | (rw [hg3.grown.cell_far _ (by simp; omega) Hnb.out]; go_keep)
              | (rw [hg4.cell_far _ (by have := hg3.grown.size; simp at this ⊢; omega) (by simp), hg3.grown.cell_far _ (by simp; omega) Hnb.out]; go_keep))
            ((refine step_g1 (w.heap.size + 3) Hsz.out (by rfl) _ _ (by rfl) noT _ _ _ _ (by rfl) Hoo.out wr.heap.size (k : Int) (by rfl) Hcb.out ⟨by omega, by omega⟩ Hlt3.out ?_; intro A' c' w3 hg3; obtain ⟨w4, hr4, ⟨A4, c4, gm4⟩, hg4⟩ := (gm.to (((Ext.rfl' _).al (.cells #[.int .i64 (k : Int)] 3)).dr)).put _ (k : Int) rfl hg3))
          all_goals
            rw [group_put, ← prsI_succ hlt hlt2] at gm4
            have hx4 : Ext w0 w4 := (((hxv.al _).dr).grown hg3.grown (fun i hi => by have := ((gm.own _).lt i hi).1; omega)).grown hg4 (fun i hi => by injection hi with hi; omega)
            have bx4 := ((bx.ext (((Ext.rfl' _).al _).dr)).grown hg3.grown (fun e => Hnb.out e.symm)).grown hg4 (by simp)
            clear hr4 hk1 hk2 hm6
            go_wp2_with fail
            go_roundw
            case rel => exact ⟨j + 1, A4, c4, by omega, by go_num, gm4, bx4, hx4⟩
            case measure => simp [intOf]; omega
        · have hj2 : j = q.cons[k].cells.length := by omega
          subst hj2
          rw [prsI_end hlt] at gm
          go_wp2_with fail
          go_roundw
          case rel => exact ⟨k + 1, A, c, by omega, by go_num, gm, bx, hxv⟩
          case measure => simp [intOf]; omega
    · have hk2 : k = q.cons.length := by omega
      subst hk2
      have hlen := prs_len HC.out q.cons.length (Nat.le_refl _)
      have hof := fun W (hW : KB (fun k => w.heap.size ≤ k) wo W) => (gm.kb hW fun k hk => by omega).of fun x => by have := group_le (prs q q.cons.length) x; omega
      have Hof := hid hof; clear hof
      go_wp2_with fail
      go_ret
      refine ⟨w.heap.size + 2, w.heap.size + 1, rfl, by omega, bx.lt, fun W hW hq hP => ?_, x0.tr hx⟩
      have by_ : Blk W (w.heap.size + 2) _ _ := (hW.block _ bx.lt (by omega)).trans bx
      exact ⟨by_.lt, by_.cell 0, by_.cell 1, by_.cell 2, by_.cell 3, by_.cell 4, by_.cell 5, by_.cell 6, hq, hP, Hof.out W hW⟩
theorem mNew_ok (w : World) (q : Problem) (p : PPtr) (P : Option Addr) (pn : Nat) (pos : List Int) (h : RProb w q p) (hP : RInts w P pos) (hc : ∀ c ∈ q.cons, c.cells.length ≤ 256) (hn : q.cons.length ≤ 4096) :
    Calls Tryz.prog 25 #[probV q p, .slice P pos.length pn] w (RetM w q pos) :=
  (mNew_k w q p P pn pos h hP hc hn).mono fun _ _ ⟨g, _, he, _, _, hm, hx⟩ => ⟨g, _, he, hm _ (KB.refl _ _) (h.to hx) (hP.to hx), hx⟩
end Go.Proofs.YtimkijmjbnmcbaaGreat
namespace Go.Proofs.YtimkijmjbnmcbaaGreat
open Go Go.RowKit
/-- What a condition says of the i-th constraint. -/
def pAt (q : Problem) (P : Cons → Bool) (i : Int) : Bool := match q.cons[i.toNat]? with | some c => P c | none => false
theorem pAt_eq {q : Problem} {P : Cons → Bool} {k : Nat} (h : k < q.cons.length) : pAt q P (k : Int) = P q.cons[k] := by simp [pAt, h]
theorem group_app (ps rs : List (Int × Int)) (x : Int) : group (ps ++ rs) x = group ps x ++ group rs x := by unfold group; rw [List.filter_append, List.map_append]
theorem group_one (l : List Int) (v x : Int) : group (l.map fun y => (y, v)) x = (l.filter (· == x)).map fun _ => v := by
  unfold group; rw [List.filter_map, List.map_map]; rfl
theorem group_any {q : Problem} {P : Cons → Bool} {x : Int} : ∀ k, k ≤ q.cons.length → (group (prs q k) x).any (pAt q P) = (q.cons.take k).any fun c => memB c.cells x && P c
  | 0, _ => by simp [prs, group]
  | k + 1, hk => by
    rw [prs_succ hk, group_app, List.any_append, group_any k (by omega), any_take _ _ k hk, group_one]
    congr 1
    rw [Bool.eq_iff_iff, List.any_eq_true, Bool.and_eq_true]
    constructor
    · rintro ⟨i, hi, hp⟩
      obtain ⟨y, hy, rfl⟩ := List.mem_map.1 hi
      rw [pAt_eq hk] at hp
      exact ⟨List.any_eq_true.2 ⟨y, (List.mem_filter.1 hy).1, (List.mem_filter.1 hy).2⟩, hp⟩
    · rintro ⟨h1, h2⟩
      obtain ⟨y, hy, he⟩ := List.any_eq_true.1 h1
      exact ⟨k, List.mem_map.2 ⟨y, List.mem_filter.2 ⟨hy, he⟩, rfl⟩, by rw [pAt_eq hk]; exact h2⟩
theorem group_mem {q : Problem} {x i : Int} : ∀ {k}, k ≤ q.cons.length → i ∈ group (prs q k) x → 0 ≤ i ∧ i < k
  | 0, _, h => by simp [prs, group] at h
  | k + 1, hk, h => by
    rw [prs_succ hk, group_app, List.mem_append, group_one] at h
    rcases h with h | h
    · have := group_mem (by omega) h; omega
    · obtain ⟨y, hy, rfl⟩ := List.mem_map.1 h; omega
theorem ofL_any {q : Problem} {P : Cons → Bool} {x : Int} : (ofL q x).any (pAt q P) = q.cons.any fun c => memB c.cells x && P c := by
  unfold ofL; rw [group_any _ (Nat.le_refl _), List.take_length]
theorem someB_of {q : Problem} {kind : Int} {cells : List Int} {ok : Cons → Bool} : someB q kind cells ok = (ofL q (num cells 0)).any (pAt q fun c => c.kind == kind && (cells.drop 1).all (memB c.cells) && ok c) := by
  rw [ofL_any]; unfold someB; congr 1; funext c; simp only [Bool.and_assoc]
theorem add_0 (a : Addr) : a.add 0 = a := by unfold Addr.add; simp
theorem RInts.drop1 {w : World} {ad : Addr} {l : List Int} (h : RInts w (some ad) l) : RInts w (some (ad.add 1)) (l.drop 1) := by
  refine ⟨by have := h.1; rw [List.length_drop]; omega, fun hp => ?_⟩
  rw [List.length_drop] at hp
  obtain ⟨ad', e, hb, hc⟩ := h.2 (by omega)
  injection e with e; subst e
  refine ⟨_, rfl, by rw [block_of_add]; exact hb, fun i hi => ?_⟩
  rw [List.length_drop] at hi
  obtain ⟨vs, h1, h2, h3⟩ := hc (i + 1) (by omega)
  refine ⟨vs, h1, by rw [List.getElem_drop]; simpa [Nat.add_comm 1 i] using h2, fun j hj => ?_⟩
  rw [add_of_add, ← h3 j hj]
  congr 1; congr 1; omega
theorem containsInt_m (w : World) (A : Option Addr) (c : Nat) (l : List Int) (h : RInts w A l) (n : Int) :
    Calls Tryz.prog 70 #[.slice A l.length c, .int .i64 n] w fun e w' => e = .returned (.bool (memB l n)) ∧ w = w' :=
  (containsInt_ok w A c l h n).mono fun _ _ ⟨he, hw⟩ => ⟨by rw [he, any_flip]; rfl, hw⟩
set_option maxHeartbeats 4000000 in
set_option maxRecDepth 100000 in
theorem mSome_ok (w : World) (q : Problem) (pos : List Int) (g : Nat) (m : MPtr) (h : RMat w q pos g m) (kind : Int) (C : Option Addr) (cn : Nat) (cells : List Int) (hC : RInts w C cells) (hp : 0 < cells.length) (hcap : cells.length ≤ cn)
    (kf : Nat) (caps : Array Value) (ok : Cons → Bool) (hcf : ∀ xs W, (callFunc kf xs).run Tryz.prog W = .ok (.enter kf xs) W) (ask : AskCons w kf caps ok q.cons) :
    Calls Tryz.prog 83 #[.pointer (some ⟨g, 0, none⟩), .int .i64 kind, .slice C cells.length cn, .func (.func kf) #[] caps] w fun e w' => e = .returned (.bool (someB q kind cells ok)) ∧ Ext w w' := by
  obtain ⟨⟨pa, pac, pb, pbc, pc, pcc⟩, P, pn, b⟩ := m
  have Hask := hid ask; clear ask
  obtain ⟨cd, rfl, hcb, hcc, hci⟩ := hC.num hp
  have hx0 := hci 0 hp
  have hc0 := hcc 0 hp
  obtain ⟨A0, c0, hof⟩ : ∃ (A0 : Option Addr) (c0 : Nat), ∀ W, Ext w W → (Instr.lookup 92 (.map (some b)) (.int .i64 (num cells 0)) false).run Tryz.prog W = .ok (.slice A0 (ofL q (num cells 0)).length c0) W ∧ RInts W A0 (ofL q (num cells 0)) := by
    obtain ⟨A, c, hof⟩ := h.of
    exact ⟨_, _, fun W hW => hof W hW _⟩
  have F : ∀ W, Ext w W → W.cell? ⟨g, 6, none⟩ = some (.map (some b)) ∧ W.cell? cd = some (.int .i64 (num cells 0)) ∧
      (Instr.lookup 92 (.map (some b)) (.int .i64 (num cells 0)) false).run Tryz.prog W = .ok (.slice A0 (ofL q (num cells 0)).length c0) W :=
    fun W hW => ⟨cellE hW h.c6 h.lt, cellE hW (by rw [add_0] at hc0; exact hc0) hcb, (hof W hW).1⟩
  have HF := hid F; clear F hcc hci hc0
  have hL := (hof w (Ext.rfl' _)).2
  have hLl := hL.len
  have HL := hid hL; clear hL hof
  have hcl := hC.len
  by_cases hcn : cn = 1
  · subst hcn
    go_enter Tryz.func83, Tryz.ntmps83
    go_wp2_with fail
    (refine wp_region_sf (fun _ => none) (by kernel_rfl) (by kernel_rfl) ?_); (repeat (first | (refine wpE_skipK ?_ ?_; (focus ((first | refine wanted_notF rfl rfl ?_ | refine wanted_notT rfl rfl ?_); (focus (simp only [List.getElem?_toArray, List.getElem?_cons_succ, List.getElem?_cons_zero]; done)))); intro K hK; go_simp; apply hK; clear hK K; (have hq9 : True := trivial); clear hq9) | (refine wpE_detN rfl rfl (fun K hK => ?_); apply Exists.intro; apply And.intro; (focus (rintro W ⟨hx, -⟩; obtain ⟨f0, f1, f2⟩ := HF.out W hx; go_simp; all_goals rfl)); go_simp; apply hK; clear hK K; (have hq9 : True := trivial); clear hq9) | (refine wpE_detK rfl ?_ ?_; (focus (refine wanted_so rfl rfl ?_; (focus (simp only [List.getElem?_toArray, List.getElem?_cons_succ, List.getElem?_cons_zero]; done)))); intro K hK; apply Exists.intro; apply And.intro; (focus (rintro W ⟨hx, -⟩; obtain ⟨f0, f1, f2⟩ := HF.out W hx; go_simp; all_goals rfl)); go_simp; apply hK; clear hK K; (have hq9 : True := trivial); clear hq9))); (apply wpE_nil); (rintro W ⟨hW, hG⟩); clear hG
    have xW := hW
    obtain ⟨wa, rfl⟩ : ∃ wa : World, wa = W := ⟨_, rfl⟩
    clear hW
    go_wp2_with fail
    go_loopw [10, 11, 12, 14, 24] (fun _ _ _ _ i wr => ∃ k : Nat, k ≤ (ofL q (num cells 0)).length ∧ i = .int .i64 k ∧ Hid (((ofL q (num cells 0)).take k).any (pAt q fun c => c.kind == kind && (cells.drop 1).all (memB c.cells) && ok c) = false) ∧ Ext w wr) (fun _ _ _ _ i _ => (ofL q (num cells 0)).length - (intOf i).toNat)
    case atStart => exact ⟨0, Nat.zero_le _, rfl, rfl, xW⟩
    case round =>
      obtain ⟨k, hk, rfl, hno, hx⟩ := hrel
      obtain ⟨wo, rfl⟩ : ∃ wo : World, wo = wr := ⟨_, rfl⟩
      by_cases hlt : k < (ofL q (num cells 0)).length
      · obtain ⟨ld, rfl, _, hlc, _⟩ := (HL.out.to hx).at_ k hlt
        obtain ⟨i0, hi0⟩ : ∃ i0, (ofL q (num cells 0))[k] = i0 := ⟨_, rfl⟩
        have him := group_mem (Nat.le_refl _) (List.getElem_mem hlt : (ofL q (num cells 0))[k] ∈ ofL q (num cells 0))
        rw [hi0] at hlc him
        obtain ⟨n0, rfl⟩ := Int.eq_ofNat_of_zero_le him.1
        have hn0 : n0 < q.cons.length := by omega
        have hpa := pAt_eq (P := fun c => c.kind == kind && (cells.drop 1).all (memB c.cells) && ok c) hn0
        rw [← hi0] at hpa
        have Hpa := hid hpa; clear hpa him hi0
        have c4 := cellE hx h.c4 h.lt
        obtain ⟨ad, B, b1, D, d1, hA, hab, r1, r2, r3, g0, g1, g2, g3, g4, g5, g6, g7, g8⟩ := (h.prob.cons.to hx).consLoad n0 hn0
        dsimp only at hA c4
        subst hA
        have R3 := hid r3; clear r3
        cases e1 : (q.cons[n0].kind == kind)
        · have e1' : (q.cons[n0].kind != kind) = true := by rw [bne, e1]; rfl
          have E1 := hid e1; clear e1
          go_wp2_with fail
          go_roundw
          case rel => exact ⟨k + 1, by omega, by go_num, any_on hlt hno (by rw [Hpa.out, E1.out]; rfl), hx.al _⟩
          case measure => simp [intOf]; omega
        have e1' : (q.cons[n0].kind != kind) = false := by rw [bne, e1]; rfl
        have E1 := hid e1; clear e1
        have hc1 : (1 : Int) ≤ (cells.length : Int) := by omega
        go_wp2_with fail
        have hD : RInts w (some cd) (cells.drop 1) := by
          have : cells.drop 1 = [] := List.drop_eq_nil_of_le (by omega)
          rw [this]; exact RInts.nil _ _
        clear hcb hC
        obtain ⟨wi, hwi⟩ : ∃ wi, wo.alloc (consO q.cons[n0] B b1 D d1) = wi := ⟨_, rfl⟩
        have xi : Ext wo wi := by rw [← hwi]; exact (Ext.rfl' _).al _
        have bxi : Blk wi wo.heap.size 58 (consCells q.cons[n0] B b1 D d1).toArray := by rw [← hwi]; exact Blk.new _ _ _
        rw [hwi]
        clear hwi
        have q0 := bxi.cell 0; have q1 := bxi.cell 1; have q2 := bxi.cell 2; have q3 := bxi.cell 3; have q4 := bxi.cell 4; have q5 := bxi.cell 5; have q6 := bxi.cell 6; have q7 := bxi.cell 7; have q8 := bxi.cell 8
        simp only [List.getElem?_toArray, List.getElem?_cons_succ, List.getElem?_cons_zero] at q0 q1 q2 q3 q4 q5 q6 q7 q8
        clear g0 g1 g2 g3 g4 g5 g6 g7 g8
        have r1i := r1.to xi
        have r2i := r2.to xi
        have hDi := hD.to (hx.tr xi)
        have hdl : (cells.drop 1).length = cells.length - 1 := List.length_drop
        have Hdl := hid hdl; clear hdl
        go_loop [12, 14, 43] (fun s _ i => ∃ j : Nat, j ≤ cells.length - 1 ∧ i = .int .i64 j ∧ s = .bool (((cells.drop 1).take j).all (memB q.cons[n0].cells))) (fun _ _ i => cells.length - 1 - (intOf i).toNat)
        case atStart => exact ⟨0, Nat.zero_le _, rfl, rfl⟩
        case round =>
          obtain ⟨j, hj, rfl, rfl⟩ := hrel
          by_cases hlt2 : j < cells.length - 1
          · exfalso; omega
          · have hall : (cells.drop 1).take j = cells.drop 1 := List.take_of_length_le (by rw [Hdl.out]; omega)
            rw [hall]
            cases hb : (cells.drop 1).all (memB q.cons[n0].cells)
            · have Hb := hid hb
              go_wp2_with fail
              go_roundw
              case rel => exact ⟨k + 1, by omega, by go_num, any_on hlt hno (by rw [Hpa.out, E1.out, Hb.out]; rfl), hx.tr xi⟩
              case measure => simp [intOf]; omega
            · have Hb := hid hb
              have hask := Hask.out wi q.cons[n0] B b1 D d1 (hx.tr xi) (List.getElem_mem _) r1i r2i R3.out
              have HA := hid hask; clear hask
              cases ho : ok q.cons[n0]
              · rw [ho] at HA
                have Ho := hid ho; clear ho
                go_wp2_with fail
                refine HA.out.mono ?_
                rintro e w1 ⟨rfl, hb1⟩
                go_wp2_with fail
                go_roundw
                case rel => exact ⟨k + 1, by omega, by go_num, any_on hlt hno (by rw [Hpa.out, E1.out, Hb.out, Ho.out]; rfl), (hx.tr xi).tr hb1⟩
                case measure => simp [intOf]; omega
              · rw [ho] at HA
                have Ho := hid ho; clear ho
                go_wp2_with fail
                refine HA.out.mono ?_
                rintro e w1 ⟨rfl, hb1⟩
                go_wp2_with fail
                go_ret
                exact ⟨ret_bool (by rw [someB_of]; exact (any_of_at k hlt (by rw [Hpa.out, E1.out, Hb.out, Ho.out]; rfl)).symm), (hx.tr xi).tr hb1⟩
      · go_wp2_with fail
        go_ret
        exact ⟨ret_bool (by rw [someB_of]; exact (any_end hno hlt).symm), hx⟩
  · go_enter Tryz.func83, Tryz.ntmps83
    go_wp2_with fail
    (refine wp_region_sf (fun _ => none) (by kernel_rfl) (by kernel_rfl) ?_); (repeat (first | (refine wpE_skipK ?_ ?_; (focus ((first | refine wanted_notF rfl rfl ?_ | refine wanted_notT rfl rfl ?_); (focus (simp only [List.getElem?_toArray, List.getElem?_cons_succ, List.getElem?_cons_zero]; done)))); intro K hK; go_simp; apply hK; clear hK K; (have hq9 : True := trivial); clear hq9) | (refine wpE_detN rfl rfl (fun K hK => ?_); apply Exists.intro; apply And.intro; (focus (rintro W ⟨hx, -⟩; obtain ⟨f0, f1, f2⟩ := HF.out W hx; go_simp; all_goals rfl)); go_simp; apply hK; clear hK K; (have hq9 : True := trivial); clear hq9) | (refine wpE_detK rfl ?_ ?_; (focus (refine wanted_so rfl rfl ?_; (focus (simp only [List.getElem?_toArray, List.getElem?_cons_succ, List.getElem?_cons_zero]; done)))); intro K hK; apply Exists.intro; apply And.intro; (focus (rintro W ⟨hx, -⟩; obtain ⟨f0, f1, f2⟩ := HF.out W hx; go_simp; all_goals rfl)); go_simp; apply hK; clear hK K; (have hq9 : True := trivial); clear hq9))); (apply wpE_nil); (rintro W ⟨hW, hG⟩); clear hG
    have xW := hW
    obtain ⟨wa, rfl⟩ : ∃ wa : World, wa = W := ⟨_, rfl⟩
    clear hW
    go_wp2_with fail
    go_loopw [10, 11, 12, 14, 24] (fun _ _ _ _ i wr => ∃ k : Nat, k ≤ (ofL q (num cells 0)).length ∧ i = .int .i64 k ∧ Hid (((ofL q (num cells 0)).take k).any (pAt q fun c => c.kind == kind && (cells.drop 1).all (memB c.cells) && ok c) = false) ∧ Ext w wr) (fun _ _ _ _ i _ => (ofL q (num cells 0)).length - (intOf i).toNat)
    case atStart => exact ⟨0, Nat.zero_le _, rfl, rfl, xW⟩
    case round =>
      obtain ⟨k, hk, rfl, hno, hx⟩ := hrel
      obtain ⟨wo, rfl⟩ : ∃ wo : World, wo = wr := ⟨_, rfl⟩
      by_cases hlt : k < (ofL q (num cells 0)).length
      · obtain ⟨ld, rfl, _, hlc, _⟩ := (HL.out.to hx).at_ k hlt
        obtain ⟨i0, hi0⟩ : ∃ i0, (ofL q (num cells 0))[k] = i0 := ⟨_, rfl⟩
        have him := group_mem (Nat.le_refl _) (List.getElem_mem hlt : (ofL q (num cells 0))[k] ∈ ofL q (num cells 0))
        rw [hi0] at hlc him
        obtain ⟨n0, rfl⟩ := Int.eq_ofNat_of_zero_le him.1
        have hn0 : n0 < q.cons.length := by omega
        have hpa := pAt_eq (P := fun c => c.kind == kind && (cells.drop 1).all (memB c.cells) && ok c) hn0
        rw [← hi0] at hpa
        have Hpa := hid hpa; clear hpa him hi0
        have c4 := cellE hx h.c4 h.lt
        obtain ⟨ad, B, b1, D, d1, hA, hab, r1, r2, r3, g0, g1, g2, g3, g4, g5, g6, g7, g8⟩ := (h.prob.cons.to hx).consLoad n0 hn0
        dsimp only at hA c4
        subst hA
        have R3 := hid r3; clear r3
        cases e1 : (q.cons[n0].kind == kind)
        · have e1' : (q.cons[n0].kind != kind) = true := by rw [bne, e1]; rfl
          have E1 := hid e1; clear e1
          go_wp2_with fail
          go_roundw
          case rel => exact ⟨k + 1, by omega, by go_num, any_on hlt hno (by rw [Hpa.out, E1.out]; rfl), hx.al _⟩
          case measure => simp [intOf]; omega
        have e1' : (q.cons[n0].kind != kind) = false := by rw [bne, e1]; rfl
        have E1 := hid e1; clear e1
        have hc1 : (1 : Int) ≤ (cells.length : Int) := by omega
        go_wp2_with fail
        have hD := hC.drop1
        rw [add_pos _ _ (by omega)] at hD
        obtain ⟨ed, hed⟩ : ∃ ed : Addr, (⟨cd.block, cd.off + 1, none⟩ : Addr) = ed := ⟨_, rfl⟩
        rw [hed] at hD ⊢
        clear hed
        obtain ⟨wi, hwi⟩ : ∃ wi, wo.alloc (consO q.cons[n0] B b1 D d1) = wi := ⟨_, rfl⟩
        have xi : Ext wo wi := by rw [← hwi]; exact (Ext.rfl' _).al _
        have bxi : Blk wi wo.heap.size 58 (consCells q.cons[n0] B b1 D d1).toArray := by rw [← hwi]; exact Blk.new _ _ _
        rw [hwi]
        clear hwi
        have q0 := bxi.cell 0; have q1 := bxi.cell 1; have q2 := bxi.cell 2; have q3 := bxi.cell 3; have q4 := bxi.cell 4; have q5 := bxi.cell 5; have q6 := bxi.cell 6; have q7 := bxi.cell 7; have q8 := bxi.cell 8
        simp only [List.getElem?_toArray, List.getElem?_cons_succ, List.getElem?_cons_zero] at q0 q1 q2 q3 q4 q5 q6 q7 q8
        clear g0 g1 g2 g3 g4 g5 g6 g7 g8
        have r1i := r1.to xi
        have r2i := r2.to xi
        have hDi := hD.to (hx.tr xi)
        have hdl : (cells.drop 1).length = cells.length - 1 := List.length_drop
        have Hdl := hid hdl; clear hdl
        go_loop [12, 14, 43] (fun s _ i => ∃ j : Nat, j ≤ cells.length - 1 ∧ i = .int .i64 j ∧ s = .bool (((cells.drop 1).take j).all (memB q.cons[n0].cells))) (fun _ _ i => cells.length - 1 - (intOf i).toNat)
        case atStart => exact ⟨0, Nat.zero_le _, rfl, rfl⟩
        case round =>
          obtain ⟨j, hj, rfl, rfl⟩ := hrel
          by_cases hlt2 : j < cells.length - 1
          · have hlt3 : j < (cells.drop 1).length := by rw [Hdl.out]; exact hlt2
            obtain ⟨ed, hE, _, hec, _⟩ := hDi.at_ j hlt3
            injection hE with hE
            subst hE
            have hs := all_take (cells.drop 1) (memB q.cons[n0].cells) j hlt3
            have Hs := hid hs; clear hs
            cases hb : ((cells.drop 1).take j).all (memB q.cons[n0].cells)
            · have Hb := hid hb
              go_wp2_with fail
              go_round
              case rel => exact ⟨j + 1, by omega, by go_num, bool_eq (by rw [Hs.out, Hb.out]; rfl)⟩
              case measure => simp [intOf]; omega
            · have Hb := hid hb
              go_wp2_with (go_at_call 70; refine (containsInt_m _ B b1 _ r1i _).mono ?_; rintro e w1 ⟨rfl, rfl⟩)
              go_round
              case rel => exact ⟨j + 1, by omega, by go_num, bool_eq (by rw [Hs.out, Hb.out, List.getElem_drop]; first | rfl | (simp [Nat.add_comm]; done))⟩
              case measure => simp [intOf]; omega
          · have hall : (cells.drop 1).take j = cells.drop 1 := List.take_of_length_le (by rw [Hdl.out]; omega)
            rw [hall]
            cases hb : (cells.drop 1).all (memB q.cons[n0].cells)
            · have Hb := hid hb
              go_wp2_with fail
              go_roundw
              case rel => exact ⟨k + 1, by omega, by go_num, any_on hlt hno (by rw [Hpa.out, E1.out, Hb.out]; rfl), hx.tr xi⟩
              case measure => simp [intOf]; omega
            · have Hb := hid hb
              have hask := Hask.out wi q.cons[n0] B b1 D d1 (hx.tr xi) (List.getElem_mem _) r1i r2i R3.out
              have HA := hid hask; clear hask
              cases ho : ok q.cons[n0]
              · rw [ho] at HA
                have Ho := hid ho; clear ho
                go_wp2_with fail
                refine HA.out.mono ?_
                rintro e w1 ⟨rfl, hb1⟩
                go_wp2_with fail
                go_roundw
                case rel => exact ⟨k + 1, by omega, by go_num, any_on hlt hno (by rw [Hpa.out, E1.out, Hb.out, Ho.out]; rfl), (hx.tr xi).tr hb1⟩
                case measure => simp [intOf]; omega
              · rw [ho] at HA
                have Ho := hid ho; clear ho
                go_wp2_with fail
                refine HA.out.mono ?_
                rintro e w1 ⟨rfl, hb1⟩
                go_wp2_with fail
                go_ret
                exact ⟨ret_bool (by rw [someB_of]; exact (any_of_at k hlt (by rw [Hpa.out, E1.out, Hb.out, Ho.out]; rfl)).symm), (hx.tr xi).tr hb1⟩
      · go_wp2_with fail
        go_ret
        exact ⟨ret_bool (by rw [someB_of]; exact (any_end hno hlt).symm), hx⟩
end Go.Proofs.YtimkijmjbnmcbaaGreat
namespace Go.Proofs.YtimkijmjbnmcbaaGreat
open Go Go.RowKit
theorem containsInt_x (w : World) (A : Option Addr) (c : Nat) (l : List Int) (h : RInts w A l) (n : Int) :
    Calls Tryz.prog 70 #[.slice A l.length c, .int .i64 n] w fun e w' => e = .returned (.bool (memB l n)) ∧ Ext w w' :=
  (containsInt_m w A c l h n).mono fun _ _ ⟨he, hw⟩ => ⟨he, ext_eq hw⟩
theorem mDiff1_ask (w : World) (l : List Cons) : AskCons w 84 #[] (fun _ => true) l := by
  intro W x A a B b _ _ hA hB _
  show Calls Tryz.prog 84 #[consV x A a B b] W _
  go_enter Tryz.func84, Tryz.ntmps84
  go_wp2_with fail
  go_ret
  exact ⟨rfl, (Ext.rfl' _).al _⟩
theorem mApart1_ask (w : World) (l : List Cons) (g : Nat) (n : Int) (hg : w.cell? ⟨g, 0, none⟩ = some (.int .i64 n)) (hlt : g < w.heap.size) : AskCons w 86 #[.pointer (some ⟨g, 0, none⟩)] (fun c => decide (n ≤ c.lo)) l := by
  intro W x A a B b hW _ hA hB _
  have hc := cellE (hW.al (consO x A a B b)) hg hlt
  show Calls Tryz.prog 86 #[consV x A a B b, .pointer (some ⟨g, 0, none⟩)] W _
  go_enter Tryz.func86, Tryz.ntmps86
  go_wp2_with fail
  go_ret
  exact ⟨rfl, (Ext.rfl' _).al _⟩
theorem rise_step {cs cells : List Int} {k : Nat} {last : Int} (hk : k < cells.length) : riseS cs (cells.drop k) last = (decide (last < idx (cells[k] == ·) cs) && riseS cs (cells.drop (k + 1)) (idx (cells[k] == ·) cs)) := by
  rw [List.drop_eq_getElem_cons hk]; rfl
set_option maxHeartbeats 1000000 in
theorem mRise1_ask (w : World) (l : List Cons) (g : Nat) (C : Option Addr) (cn : Nat) (cells : List Int) (hg : w.cell? ⟨g, 0, none⟩ = some (.slice C cells.length cn)) (hlt : g < w.heap.size) (hC : RInts w C cells) : AskCons w 87 #[.pointer (some ⟨g, 0, none⟩)] (fun c => riseS c.cells cells (-1)) l := by
  intro W x A a B b hW _ hA hB _
  have xx := (Ext.rfl' W).al (consO x A a B b)
  have hc := cellE (hW.tr xx) hg hlt
  have RC := hC.to (hW.tr xx)
  have RA := hA.to xx
  have hcl := hC.len
  show Calls Tryz.prog 87 #[consV x A a B b, .pointer (some ⟨g, 0, none⟩)] W _
  go_enter Tryz.func87, Tryz.ntmps87
  go_wp2_with fail
  go_loop [4, 6, 7, 10] (fun s _ _ i => ∃ (k : Nat) (last : Int), k ≤ cells.length ∧ i = .int .i64 k ∧ s = .int .i64 last ∧ Hid (riseS x.cells cells (-1) = riseS x.cells (cells.drop k) last)) (fun _ _ _ i => cells.length - (intOf i).toNat)
  case atStart => exact ⟨0, -1, Nat.zero_le _, rfl, rfl, rfl⟩
  case round =>
    obtain ⟨k, last, hk, rfl, rfl, hno⟩ := hrel
    by_cases hlt2 : k < cells.length
    · obtain ⟨ad, rfl, _, hd, _⟩ := RC.at_ k hlt2
      have hs := rise_step (cs := x.cells) (last := last) hlt2
      have Hs := hid hs; clear hs
      by_cases h1 : idx (cells[k] == ·) x.cells ≤ last
      · have h1' : decide (idx (cells[k] == ·) x.cells ≤ last) = true := decide_eq_true h1
        have h2' : decide (last < idx (cells[k] == ·) x.cells) = false := decide_eq_false (by omega)
        have H2 := hid h2'; clear h2' h1
        go_wp2_with (go_at_call 88; refine (indexInt_ok _ _ _ _ RA _).mono ?_; rintro e w1 ⟨rfl, rfl⟩)
        go_ret
        exact ⟨ret_bool (by rw [hno.out, Hs.out, H2.out]; rfl), xx⟩
      · have h1' : decide (idx (cells[k] == ·) x.cells ≤ last) = false := decide_eq_false h1
        have h2' : decide (last < idx (cells[k] == ·) x.cells) = true := decide_eq_true (by omega)
        have H2 := hid h2'; clear h2' h1
        go_wp2_with (go_at_call 88; refine (indexInt_ok _ _ _ _ RA _).mono ?_; rintro e w1 ⟨rfl, rfl⟩)
        go_round
        case rel => exact ⟨k + 1, _, by omega, by go_num, rfl, by show _ = _; rw [hno.out, Hs.out, H2.out]; rfl⟩
        case measure => simp [intOf]; omega
    · have hdn : cells.drop k = [] := List.drop_eq_nil_of_le (by omega)
      rw [hdn] at hno
      go_wp2_with fail
      go_ret
      exact ⟨ret_bool (by rw [hno.out]; rfl), xx⟩
/-- What a method of the matcher answers. -/
def MetAsk (w : World) (g : Nat) (f : Nat) (cells letters : List Int) (n : Int) (r : Bool) : Prop :=
  ∀ W C cn D dn, Ext w W → RInts W C cells → cells.length ≤ cn → RInts W D letters → Calls Tryz.prog f #[.pointer (some ⟨g, 0, none⟩), .slice C cells.length cn, .slice D letters.length dn, .int .i64 n] W fun e W' => e = .returned (.bool r) ∧ Ext W W'
set_option maxHeartbeats 1000000 in
theorem mApart_ok (w : World) (q : Problem) (pos : List Int) (g : Nat) (m : MPtr) (h : RMat w q pos g m) (cells letters : List Int) (n : Int) (hp : 0 < cells.length) : MetAsk w g 50 cells letters n (someB q 6 cells fun c => decide (n ≤ c.lo)) := by
  intro W C cn D dn hW hC hcap hD
  have xx := (Ext.rfl' W).al (.cells #[.int .i64 n] 3)
  have hask := mApart1_ask (W.alloc (.cells #[.int .i64 n] 3)) q.cons W.heap.size n ((Blk.new W _ _).cell 0) (by simp)
  have hs := mSome_ok _ q pos g m (h.to (hW.tr xx)) 6 C cn cells (hC.to xx) hp hcap 86 _ _ (fun _ _ => by kernel_rfl) hask
  have Hs := hid hs; clear hs hask
  go_enter Tryz.func50, Tryz.ntmps50
  go_wp2_with fail
  refine Hs.out.mono ?_
  rintro e w1 ⟨rfl, hb⟩
  go_wp2_with fail
  go_ret
  exact ⟨rfl, xx.tr hb⟩
set_option maxHeartbeats 1000000 in
theorem mRise_ok (w : World) (q : Problem) (pos : List Int) (g : Nat) (m : MPtr) (h : RMat w q pos g m) (cells letters : List Int) (n : Int) (hp : 0 < cells.length) : MetAsk w g 51 cells letters n (someB q 4 cells fun c => riseS c.cells cells (-1)) := by
  intro W C cn D dn hW hC hcap hD
  have xx := (Ext.rfl' W).al (.cells #[.slice C cells.length cn] 22)
  have hask := mRise1_ask (W.alloc (.cells #[.slice C cells.length cn] 22)) q.cons W.heap.size C cn cells ((Blk.new W _ _).cell 0) (by simp) (hC.to xx)
  have hs := mSome_ok _ q pos g m (h.to (hW.tr xx)) 4 C cn cells (hC.to xx) hp hcap 87 _ _ (fun _ _ => by kernel_rfl) hask
  have Hs := hid hs; clear hs hask
  go_enter Tryz.func51, Tryz.ntmps51
  go_wp2_with fail
  refine Hs.out.mono ?_
  rintro e w1 ⟨rfl, hb⟩
  go_wp2_with fail
  go_ret
  exact ⟨rfl, xx.tr hb⟩
set_option maxHeartbeats 1000000 in
set_option maxRecDepth 100000 in
theorem mNear_ok (w : World) (q : Problem) (pos : List Int) (g : Nat) (m : MPtr) (h : RMat w q pos g m) (cells letters : List Int) (n : Int) (hp : 1 < cells.length) (h0 : 0 ≤ num cells 0) (h1 : num cells 0 < q.neighbors.length) : MetAsk w g 52 cells letters n (memB (row q.neighbors (num cells 0).toNat) (num cells 1)) := by
  obtain ⟨⟨pa, pac, pb, pbc, pc, pcc⟩, P, pn, b⟩ := m
  intro W0 C cn D dn hW0 hC hcap hD
  obtain ⟨cd, rfl, hcb, hcc, _⟩ := hC.num (by omega)
  have hc0 := hcc 0 (by omega)
  have hc1 := hcc 1 hp
  obtain ⟨nd, B, bn, hA, hnb, hnc, hnr⟩ := (h.prob.to hW0).neighbors.rowAt (num cells 0).toNat (by omega)
  dsimp only at hA
  subst hA
  have F : ∀ V, Ext W0 V → V.cell? ⟨g, 3, none⟩ = some (.slice (some nd) q.neighbors.length pbc) ∧ V.cell? cd = some (.int .i64 (num cells 0)) ∧ V.cell? ⟨cd.block, cd.off + 1, none⟩ = some (.int .i64 (num cells 1)) ∧
      V.cell? (nd.add (num cells 0).toNat) = some (.slice B (row q.neighbors (num cells 0).toNat).length bn) := fun V hV =>
    ⟨cellE (hW0.tr hV) h.c3 h.lt, cellE hV (by rw [add_0] at hc0; exact hc0) hcb, cellE hV (by rw [add_pos _ _ (by omega)] at hc1; exact hc1) hcb, cellE hV hnc (by rw [block_of_add]; exact hnb)⟩
  have HF := hid F; clear F hcc hc0 hc1 hnc
  have hn1 : (1 : Int) < (cells.length : Int) := by omega
  have hn0 : 0 < cells.length := by omega
  go_enter Tryz.func52, Tryz.ntmps52
  go_wp2_with fail
  (refine wp_region_sf (fun | 13 => some (SF.val (.bool (memB (row q.neighbors (num cells 0).toNat) (num cells 1)))) | _ => none) (by kernel_rfl) (by kernel_rfl) ?_); (repeat (first | (refine wpE_skipK ?_ ?_; (focus ((first | refine wanted_notF rfl rfl ?_ | refine wanted_notT rfl rfl ?_); (focus (simp only [List.getElem?_toArray, List.getElem?_cons_succ, List.getElem?_cons_zero]; done)))); intro K hK; go_simp; apply hK; clear hK K; (have hq9 : True := trivial); clear hq9) | (refine wpE_detN rfl rfl (fun K hK => ?_); apply Exists.intro; apply And.intro; (focus (rintro W ⟨hx, -⟩; obtain ⟨f0, f1, f2, f3⟩ := HF.out W hx; go_simp; all_goals rfl)); go_simp; apply hK; clear hK K; (have hq9 : True := trivial); clear hq9) | (refine wpE_detK rfl ?_ ?_; (focus (refine wanted_so rfl rfl ?_; (focus (simp only [List.getElem?_toArray, List.getElem?_cons_succ, List.getElem?_cons_zero]; done)))); intro K hK; apply Exists.intro; apply And.intro; (focus (rintro W ⟨hx, -⟩; obtain ⟨f0, f1, f2, f3⟩ := HF.out W hx; go_simp; all_goals rfl)); go_simp; apply hK; clear hK K; (have hq9 : True := trivial); clear hq9))); (first | refine wpE_newN _ rfl rfl ?_ ?_ | (refine wpE_newK _ rfl ?_ ?_ ?_; (focus (refine wanted_so rfl rfl ?_; (focus (simp only [List.getElem?_toArray, List.getElem?_cons_succ, List.getElem?_cons_zero]; done)))))); (focus (rintro W ⟨hW, -⟩; go_simp; exact ⟨Ext.rfl' _, (containsInt_x W B bn _ (hnr.to hW) _).mono fun e W' ⟨he, hb⟩ => ⟨_, he, hb, rfl⟩⟩)); (rintro _ ⟨_, rfl⟩ K hK); (go_simp; apply hK; clear hK K; (have hq9 : True := trivial); clear hq9); (repeat (first | (refine wpE_skipK ?_ ?_; (focus ((first | refine wanted_notF rfl rfl ?_ | refine wanted_notT rfl rfl ?_); (focus (simp only [List.getElem?_toArray, List.getElem?_cons_succ, List.getElem?_cons_zero]; done)))); intro K hK; go_simp; apply hK; clear hK K; (have hq9 : True := trivial); clear hq9) | (refine wpE_detN rfl rfl (fun K hK => ?_); apply Exists.intro; apply And.intro; (focus (rintro W ⟨hx, -⟩; obtain ⟨f0, f1, f2, f3⟩ := HF.out W hx; go_simp; all_goals rfl)); go_simp; apply hK; clear hK K; (have hq9 : True := trivial); clear hq9) | (refine wpE_detK rfl ?_ ?_; (focus (refine wanted_so rfl rfl ?_; (focus (simp only [List.getElem?_toArray, List.getElem?_cons_succ, List.getElem?_cons_zero]; done)))); intro K hK; apply Exists.intro; apply And.intro; (focus (rintro W ⟨hx, -⟩; obtain ⟨f0, f1, f2, f3⟩ := HF.out W hx; go_simp; all_goals rfl)); go_simp; apply hK; clear hK K; (have hq9 : True := trivial); clear hq9))); (apply wpE_nil); (rintro W ⟨hW, hG⟩); clear hG
  go_wp2_with fail
  go_ret
  exact ⟨rfl, hW⟩
end Go.Proofs.YtimkijmjbnmcbaaGreat
namespace Go.Proofs.YtimkijmjbnmcbaaGreat
open Go Go.RowKit
/-- What the closure of quota has captured. -/
structure QuotaCap (w : World) (g s a c d : Nat) (C : Option Addr) (cn : Nat) (cells : List Int) (set n : Int) : Prop where
  lts : s < w.heap.size
  lta : a < w.heap.size
  ltc : c < w.heap.size
  ltd : d < w.heap.size
  cs : w.cell? ⟨s, 0, none⟩ = some (.int .i64 set)
  ca : w.cell? ⟨a, 0, none⟩ = some (.pointer (some ⟨g, 0, none⟩))
  cc : w.cell? ⟨c, 0, none⟩ = some (.slice C cells.length cn)
  cd : w.cell? ⟨d, 0, none⟩ = some (.int .i64 n)
theorem QuotaCap.to {w w' : World} {g s a c d : Nat} {C : Option Addr} {cn : Nat} {cells : List Int} {set n : Int} (h : QuotaCap w g s a c d C cn cells set n) (hb : Ext w w') : QuotaCap w' g s a c d C cn cells set n :=
  ⟨hb.lt h.lts, hb.lt h.lta, hb.lt h.ltc, hb.lt h.ltd, cellE hb h.cs h.lts, cellE hb h.ca h.lta, cellE hb h.cc h.ltc, cellE hb h.cd h.ltd⟩
theorem leftP_in {pos cells : List Int} {set lo : Int} {l : List Int} {k : Nat} (h : k < l.length) (hq : quotaInP pos cells set l[k] = true) : leftP pos cells set lo (l.take (k + 1)) = leftP pos cells set lo (l.take k) - 1 := by
  unfold leftP; rw [List.take_succ_eq_append_getElem h, List.filter_append, List.length_append]; simp [hq]; omega
theorem leftP_out {pos cells : List Int} {set lo : Int} {l : List Int} {k : Nat} (h : k < l.length) (hq : quotaInP pos cells set l[k] = false) : leftP pos cells set lo (l.take (k + 1)) = leftP pos cells set lo (l.take k) := by
  unfold leftP; rw [List.take_succ_eq_append_getElem h, List.filter_append, List.length_append]; simp [hq]
theorem leftP_bd (pos cells : List Int) (set lo : Int) (l : List Int) (k : Nat) : lo - k ≤ leftP pos cells set lo (l.take k) ∧ leftP pos cells set lo (l.take k) ≤ lo := by
  unfold leftP
  have h1 := List.length_filter_le (quotaInP pos cells set) (l.take k)
  have h2 : (l.take k).length ≤ k := List.length_take_le _ _
  omega
set_option maxHeartbeats 2000000 in
set_option maxRecDepth 100000 in
theorem mQuota1_ask (w : World) (q : Problem) (pos : List Int) (g : Nat) (m : MPtr) (h : RMat w q pos g m) (s a c d : Nat) (C : Option Addr) (cn : Nat) (cells : List Int) (set n : Int) (hcap : QuotaCap w g s a c d C cn cells set n) (hC : RInts w C cells)
    (hi : ∀ x ∈ q.cons, Idx x.cells pos.length) (hlo : ∀ x ∈ q.cons, 0 ≤ x.lo ∧ x.lo ≤ 65536) :
    AskCons w 89 #[.pointer (some ⟨s, 0, none⟩), .pointer (some ⟨a, 0, none⟩), .pointer (some ⟨c, 0, none⟩), .pointer (some ⟨d, 0, none⟩)] (quotaP pos cells set n) q.cons := by
  obtain ⟨⟨pa, pac, pb, pbc, pc, pcc⟩, P, pn, mb⟩ := m
  intro W0 x A an B bn hW0 hx hA hB _
  have xx := (Ext.rfl' W0).al (consO x A an B bn)
  have hix := hi x hx
  have Hix := hid hix; clear hix hi
  obtain ⟨hlo1, hlo2⟩ := hlo x hx
  clear hlo
  have hal := hA.len
  obtain ⟨W, hWW⟩ : ∃ W, W0.alloc (consO x A an B bn) = W := ⟨_, rfl⟩
  have xW : Ext W0 W := hWW ▸ xx
  obtain ⟨-, -, -, -, k0, k1, k2, k3⟩ := hcap.to (hW0.tr xW)
  have k5 := (h.to (hW0.tr xW)).c5
  have RP := (h.to (hW0.tr xW)).pos
  have RA := hA.to xW
  have RC := (hC.to hW0).to xW
  obtain ⟨-, b1, b2, -, b4, b5, -, -, -⟩ := consBox (W := W) (by rw [hWW]; exact Ext.rfl' _) rfl
  dsimp only at k5 RP
  subst hWW
  show Calls Tryz.prog 89 #[consV x A an B bn, .pointer (some ⟨s, 0, none⟩), .pointer (some ⟨a, 0, none⟩), .pointer (some ⟨c, 0, none⟩), .pointer (some ⟨d, 0, none⟩)] W0 _
  cases e1 : (x.lo == x.hi)
  · have e1' : (x.lo != x.hi) = true := by rw [bne, e1]; rfl
    have E1 := hid e1; clear e1
    go_enter Tryz.func89, Tryz.ntmps89
    go_wp2_with fail
    go_ret
    exact ⟨ret_bool (by unfold quotaP; rw [E1.out]; rfl), xW⟩
  have e1' : (x.lo != x.hi) = false := by rw [bne, e1]; rfl
  have E1 := hid e1; clear e1
  cases e2 : (x.set == set)
  · have e2' : (x.set != set) = true := by rw [bne, e2]; rfl
    have E2 := hid e2; clear e2
    go_enter Tryz.func89, Tryz.ntmps89
    go_wp2_with fail
    go_ret
    exact ⟨ret_bool (by unfold quotaP; rw [E1.out, E2.out]; rfl), xW⟩
  have e2' : (x.set != set) = false := by rw [bne, e2]; rfl
  have E2 := hid e2; clear e2
  go_enter Tryz.func89, Tryz.ntmps89
  go_wp2_with fail
  go_loop [7, 9, 10, 27] (fun r _ _ i => ∃ k : Nat, k ≤ x.cells.length ∧ i = .int .i64 k ∧ r = .int .i64 (leftP pos cells set x.lo (x.cells.take k)) ∧ Hid ((x.cells.take k).all (quotaAtP pos cells set) = true)) (fun _ _ _ i => x.cells.length - (intOf i).toNat)
  case atStart => exact ⟨0, Nat.zero_le _, rfl, by simp [leftP], rfl⟩
  case round =>
    obtain ⟨k, hk, rfl, rfl, hno⟩ := hrel
    by_cases hlt : k < x.cells.length
    · obtain ⟨ad, rfl, _, hac, _⟩ := RA.at_ k hlt
      obtain ⟨i1, i2⟩ := Hix.out _ (List.getElem_mem hlt)
      obtain ⟨bd, rfl, hpb, hpc, _⟩ := RP.num (by omega)
      have hp1 := hpc x.cells[k].toNat (by omega)
      clear hpc
      have hbd := leftP_bd pos cells set x.lo x.cells k
      have hin := leftP_in (pos := pos) (cells := cells) (set := set) (lo := x.lo) hlt
      have hout := leftP_out (pos := pos) (cells := cells) (set := set) (lo := x.lo) hlt
      have Hin := hid hin; have Hout := hid hout; clear hin hout
      cases e4 : memB cells x.cells[k]
      · cases e5 : (andI (num pos x.cells[k].toNat) set == 0)
        · have e5' : (bits .and .i64 (num pos x.cells[k].toNat) set == 0) = false := e5
          cases e6 : (andNotI (num pos x.cells[k].toNat) set == 0)
          · have e6' : (bits .andNot .i64 (num pos x.cells[k].toNat) set == 0) = false := e6
            have hat : quotaAtP pos cells set x.cells[k] = false := by unfold quotaAtP; rw [e4, e5, e6]; rfl
            have Hat := hid hat; clear hat e5 e6
            go_wp2_with (go_at_call 70; refine (containsInt_m _ C cn _ RC _).mono ?_; rintro e w1 ⟨rfl, rfl⟩)
            go_ret
            exact ⟨ret_bool (by unfold quotaP; rw [E1.out, E2.out, all_of_at k hlt Hat.out]; rfl), xW⟩
          · have e6' : (bits .andNot .i64 (num pos x.cells[k].toNat) set == 0) = true := e6
            have hat : quotaAtP pos cells set x.cells[k] = true := by unfold quotaAtP; rw [e4, e5, e6]; rfl
            have Hq := hid (Hin.out (by unfold quotaInP; rw [e4, e5, e6]; rfl))
            have Hat := hid hat; clear hat e5 e6
            go_wp2_with (go_at_call 70; refine (containsInt_m _ C cn _ RC _).mono ?_; rintro e w1 ⟨rfl, rfl⟩)
            go_round
            case rel => exact ⟨k + 1, by omega, by go_num, by rw [Hq.out], all_on hlt hno Hat.out⟩
            case measure => simp [intOf]; omega
        · have e5' : (bits .and .i64 (num pos x.cells[k].toNat) set == 0) = true := e5
          have hat : quotaAtP pos cells set x.cells[k] = true := by unfold quotaAtP; rw [e4, e5]; rfl
          have Hq := hid (Hout.out (by unfold quotaInP; rw [e4, e5]; rfl))
          have Hat := hid hat; clear hat e5
          go_wp2_with (go_at_call 70; refine (containsInt_m _ C cn _ RC _).mono ?_; rintro e w1 ⟨rfl, rfl⟩)
          go_round
          case rel => exact ⟨k + 1, by omega, by go_num, by rw [Hq.out], all_on hlt hno Hat.out⟩
          case measure => simp [intOf]; omega
      · have hat : quotaAtP pos cells set x.cells[k] = true := by unfold quotaAtP; rw [e4]; rfl
        have Hq := hid (Hout.out (by unfold quotaInP; rw [e4]; rfl))
        have Hat := hid hat; clear hat
        go_wp2_with (go_at_call 70; refine (containsInt_m _ C cn _ RC _).mono ?_; rintro e w1 ⟨rfl, rfl⟩)
        go_round
        case rel => exact ⟨k + 1, by omega, by go_num, by rw [Hq.out], all_on hlt hno Hat.out⟩
        case measure => simp [intOf]; omega
    · have hall : x.cells.take k = x.cells := List.take_of_length_le (by omega)
      have hh := hno.out
      rw [hall] at hh ⊢
      have Hh := hid hh; clear hh hno
      go_wp2_with fail
      go_ret
      exact ⟨ret_bool (by unfold quotaP; rw [E1.out, E2.out, Hh.out]; rfl), xW⟩
end Go.Proofs.YtimkijmjbnmcbaaGreat
namespace Go.Proofs.YtimkijmjbnmcbaaGreat
open Go Go.RowKit
set_option maxHeartbeats 2000000 in
set_option maxRecDepth 100000 in
theorem mQuota_ok (w : World) (q : Problem) (pos : List Int) (g : Nat) (m : MPtr) (h : RMat w q pos g m) (cells letters : List Int) (n : Int) (hp : 0 < cells.length) (hlet : Idx letters 16) (hi : ∀ x ∈ q.cons, Idx x.cells pos.length) (hlo : ∀ x ∈ q.cons, 0 ≤ x.lo ∧ x.lo ≤ 65536) :
    MetAsk w g 53 cells letters n (someB q 2 cells (quotaP pos cells (setOf letters) n)) := by
  intro W C cn D dn hW hC hcap hD
  have hdl := hD.len
  have Hlet := hid hlet; clear hlet
  go_enter Tryz.func53, Tryz.ntmps53
  go_upto_region 2 with fail
  go_wp2_with fail
  obtain ⟨Wa, hWa⟩ : ∃ Wa, ((W.alloc (.cells #[.pointer (some ⟨g, 0, none⟩)] 72)).alloc (.cells #[.slice C cells.length cn] 22)).alloc (.cells #[.int .i64 n] 3) = Wa := ⟨_, rfl⟩
  have xa : Ext W Wa := by rw [← hWa]; exact (((Ext.rfl' _).al _).al _).al _
  have ea : Wa.heap.size = W.heap.size + 3 := by rw [← hWa]; simp
  have b0 : Blk Wa W.heap.size 72 #[.pointer (some ⟨g, 0, none⟩)] := by rw [← hWa]; exact (Blk.new W _ _).ext (((Ext.rfl' _).al _).al _)
  have b1 : Blk Wa (W.heap.size + 1) 22 #[.slice C cells.length cn] := by
    have := Blk.new (W.alloc (.cells #[.pointer (some ⟨g, 0, none⟩)] 72)) 22 #[.slice C cells.length cn]
    rw [World.size_alloc] at this
    rw [← hWa]; exact this.ext ((Ext.rfl' _).al _)
  have b2 : Blk Wa (W.heap.size + 2) 3 #[.int .i64 n] := by
    have := Blk.new ((W.alloc (.cells #[.pointer (some ⟨g, 0, none⟩)] 72)).alloc (.cells #[.slice C cells.length cn] 22)) 3 #[.int .i64 n]
    rw [World.size_alloc, World.size_alloc] at this
    rw [← hWa]; exact this
  rw [hWa]
  clear hWa
  obtain ⟨w1, hw1⟩ : ∃ w1, Wa.alloc (.cells #[.int .i64 0] 3) = w1 := ⟨_, rfl⟩
  have x1 : Ext Wa w1 := by rw [← hw1]; exact (Ext.rfl' _).al _
  have b3 : Blk w1 (W.heap.size + 3) 3 #[.int .i64 0] := by
    have := Blk.new Wa 3 #[.int .i64 0]
    rw [ea] at this
    rw [← hw1]; exact this
  rw [hw1]
  clear hw1
  go_wp2_with fail
  go_loopw [11, 14] (fun _ i wr => ∃ k : Nat, k ≤ letters.length ∧ i = .int .i64 k ∧ Blk wr (W.heap.size + 3) 3 #[.int .i64 (setOf (letters.take k))] ∧ Ext Wa wr) (fun _ i _ => letters.length - (intOf i).toNat)
  case atStart => exact ⟨0, Nat.zero_le _, rfl, b3, x1⟩
  case round =>
    clear b3 x1
    obtain ⟨k, hk, rfl, b3, hx⟩ := hrel
    by_cases hlt : k < letters.length
    · obtain ⟨ad, rfl, _, hdc, _⟩ := (hD.to (xa.tr hx)).at_ k hlt
      obtain ⟨i1, i2⟩ := Hlet.out _ (List.getElem_mem hlt)
      have hp2 := pow_bd letters[k] i1 (by omega)
      have hM : IntKind.i64.wrap (2 ^ letters[k].toNat) = 2 ^ letters[k].toNat := IntWalk.i64_in _ ⟨by omega, by omega⟩
      have Ht := hid (setOf_take hlt)
      have F : ∀ V, Ext wr V → V.cell? ⟨W.heap.size + 3, 0, none⟩ = some (.int .i64 (setOf (letters.take k))) := fun V hV => (b3.ext hV).cell 0
      have HF := hid F; clear F
      go_wp2_with fail
      refine wp_region_sf_tail 4 (fun _ => none) (by kernel_rfl) (by kernel_rfl) ?_
      repeat (first | (refine wpE_skipK ?_ ?_; (focus ((first | refine wanted_notF rfl rfl ?_ | refine wanted_notT rfl rfl ?_); (focus (simp only [List.getElem?_toArray, List.getElem?_cons_succ, List.getElem?_cons_zero]; done)))); intro K hK; go_simp; apply hK; clear hK K; (have hq9 : True := trivial); clear hq9) | (refine wpE_detN rfl rfl (fun K hK => ?_); apply Exists.intro; apply And.intro; (focus (rintro W ⟨hx, -⟩; obtain f0 := HF.out W hx; go_simp; all_goals rfl)); go_simp; apply hK; clear hK K; (have hq9 : True := trivial); clear hq9) | (refine wpE_detK rfl ?_ ?_; (focus (refine wanted_so rfl rfl ?_; (focus (simp only [List.getElem?_toArray, List.getElem?_cons_succ, List.getElem?_cons_zero]; done)))); intro K hK; apply Exists.intro; apply And.intro; (focus (rintro W ⟨hx, -⟩; obtain f0 := HF.out W hx; go_simp; all_goals rfl)); go_simp; apply hK; clear hK K; (have hq9 : True := trivial); clear hq9))
      apply wpE_nil
      rintro V ⟨hV, -⟩
      have bV := b3.ext hV
      have hc := bV.cell 0
      have hf := bV.frozen 0
      simp only [List.getElem?_toArray, List.getElem?_cons_zero] at hc
      clear hM
      go_simp
      go_wp2_with fail
      go_roundw
      case rel => exact ⟨k + 1, by omega, by go_num, by rw [Ht.out]; exact bV.set 0 _, (hx.tr hV).set (p := ⟨W.heap.size + 3, 0, none⟩) (by rw [ea]; exact Nat.le_refl _) _⟩
      case measure => simp [intOf]; omega
    · have hall : letters.take k = letters := List.take_of_length_le (by omega)
      rw [hall] at b3
      have c0 := (b0.ext hx).cell 0; have c1 := (b1.ext hx).cell 0; have c2 := (b2.ext hx).cell 0
      simp only [List.getElem?_toArray, List.getElem?_cons_zero] at c0 c1 c2
      have hcp : QuotaCap wr g (W.heap.size + 3) W.heap.size (W.heap.size + 1) (W.heap.size + 2) C cn cells (setOf letters) n :=
        ⟨b3.lt, hx.lt b0.lt, hx.lt b1.lt, hx.lt b2.lt, b3.cell 0, c0, c1, c2⟩
      have hask := mQuota1_ask wr q pos g m (h.to (hW.tr (xa.tr hx))) _ _ _ _ C cn cells (setOf letters) n hcp (hC.to (xa.tr hx)) hi hlo
      have hs := mSome_ok _ q pos g m (h.to (hW.tr (xa.tr hx))) 2 C cn cells (hC.to (xa.tr hx)) hp hcap 89 _ _ (fun _ _ => by kernel_rfl) hask
      have Hs := hid hs; clear hs hask hcp
      go_wp2_with fail
      refine Hs.out.mono ?_
      rintro e w2 ⟨rfl, hb⟩
      go_wp2_with fail
      go_ret
      exact ⟨rfl, (xa.tr hx).tr hb⟩
/-- A list of integers: its slice has room for it. -/
def RetIc (w : World) (l : List Int) (e : Ending) (w' : World) : Prop := ∃ A c, e = .returned (.slice A l.length c) ∧ RInts w' A l ∧ l.length ≤ c ∧ Ext w w'
theorem OwnI.cap {w : World} {base : Nat} {A : Option Addr} {n c : Nat} {l : List Int} (h : OwnI w base (.slice A n c) l) : n ≤ c := by
  rcases h.row.2 with ⟨e, hn⟩ | ⟨g, cap, cur, e, hb, hg, h1, h2, h3, h4⟩
  · injection e with e1 e2 e3; omega
  · injection e with e1 e2 e3; omega
set_option maxHeartbeats 1000000 in
theorem mPick_ok (w : World) (A B : Option Addr) (c d : Nat) (l s : List Int) (h : RInts w A l) (g : RInts w B s) (hi : Idx s l.length) :
    Calls Tryz.prog 54 #[.slice A l.length c, .slice B s.length d] w (RetIc w (chosen l s)) := by
  have hl := g.len
  have hl2 := h.len
  have Hi := hid hi; clear hi
  go_enter Tryz.func54, Tryz.ntmps54
  go_wp2_with fail
  go_loopw [4, 6, 9] (fun v _ i wr => ∃ (k : Nat) (C : Option Addr) (cc : Nat), k ≤ s.length ∧ i = .int .i64 k ∧ v = .slice C k cc ∧ OwnI wr w.heap.size (.slice C k cc) (chosen l (s.take k)) ∧ Ext w wr) (fun _ _ i _ => s.length - (intOf i).toNat)
  case atStart => exact ⟨0, none, 0, Nat.zero_le _, rfl, rfl, OwnI.nil _ _, Ext.rfl' _⟩
  case round =>
    obtain ⟨k, C, cc, hk, rfl, rfl, hown, hx⟩ := hrel
    by_cases hlt : k < s.length
    · obtain ⟨ad, rfl, _, hc, _⟩ := (g.to hx).at_ k hlt
      obtain ⟨h1, h2⟩ := Hi.out _ (List.getElem_mem hlt)
      obtain ⟨bd, rfl, _, hd, hv⟩ := (h.to hx).num (by omega)
      have hd1 := hd s[k].toNat (by omega)
      have hv1 := hv s[k].toNat (by omega)
      have Hv := hid hv1; clear hd hv hv1
      have ht : chosen l (s.take (k + 1)) = chosen l (s.take k) ++ [num l s[k].toNat] := by unfold chosen; rw [List.take_succ_eq_append_getElem hlt, List.map_append]; rfl
      have Ht := hid ht; clear ht
      go_wp2_with (at_builtin; refine app_one w hx rfl _ _ rfl C k cc _ rfl hown _ (num l s[k].toNat) rfl Hv.out (by omega) ?_; intro A' c' w2 hown2 hx2 hg2)
      go_roundw
      case rel => exact ⟨k + 1, A', c', by omega, by go_num, rfl, hown2.as rfl Ht.out.symm, hx2⟩
      case measure => simp [intOf]; omega
    · have hk3 : k = s.length := by omega
      have hall : s.take k = s := List.take_of_length_le (by omega)
      rw [hall] at hown
      subst hk3
      go_wp2_with fail
      go_ret
      exact ⟨C, cc, by simp [chosen], hown.ints, by simpa [chosen] using hown.cap, hx⟩
end Go.Proofs.YtimkijmjbnmcbaaGreat
namespace Go.Proofs.YtimkijmjbnmcbaaGreat
open Go Go.RowKit
theorem RInts.pair {W : World} {g : Nat} {a b : Int} (hg : W.heap.size = g) (t : TypeId) (ha : I64 a) (hb : I64 b) : RInts (W.alloc (.cells #[.int .i64 a, .int .i64 b] t)) (some ⟨g, 0, none⟩) [a, b] := RInts.lit W g hg t [a, b] _ rfl (by simpa using ⟨ha, hb⟩) (by simp)
theorem num_take {l : List Int} {i k : Nat} (h : k < i) : num (l.take i) k = num l k := by
  unfold num
  simp [List.getD, h]
set_option maxHeartbeats 2000000 in
set_option maxRecDepth 100000 in
theorem mDiff_ok (w : World) (q : Problem) (pos : List Int) (g : Nat) (m : MPtr) (h : RMat w q pos g m) (cells letters : List Int) (n : Int) : MetAsk w g 48 cells letters n (diffAll q cells) := by
  intro W C cn D dn hW hC hcap hD
  have hcl := hC.len
  go_enter Tryz.func48, Tryz.ntmps48
  go_wp2_with fail
  go_loopw [9, 10, 12, 15] (fun _ _ _ i wr => ∃ k : Nat, k ≤ cells.length ∧ i = .int .i64 k ∧ Hid ((List.range k).all (fun i => (List.range i).all fun j => pairB q (num cells i) (num cells j)) = true) ∧ Ext W wr) (fun _ _ _ i _ => cells.length - (intOf i).toNat)
  case atStart => exact ⟨0, Nat.zero_le _, rfl, rfl, Ext.rfl' _⟩
  case round =>
    obtain ⟨k, hk, rfl, hno, hx⟩ := hrel
    obtain ⟨wo, rfl⟩ : ∃ wo : World, wo = wr := ⟨_, rfl⟩
    by_cases hlt : k < cells.length
    · obtain ⟨cd, rfl, hcb, hcc0, hci⟩ := hC.num (by omega)
      have hcc := cellE hx (hcc0 k hlt) (by rw [block_of_add]; exact hcb)
      have hkc : (k : Int) ≤ (cn : Int) := by omega
      have hk0 : (0 : Int) ≤ (k : Int) := by omega
      go_wp2_with fail
      go_loopw [12, 24] (fun _ i wr => ∃ j : Nat, j ≤ k ∧ i = .int .i64 j ∧ Hid ((List.range j).all (fun j => pairB q (num cells k) (num cells j)) = true) ∧ Ext W wr) (fun _ i _ => k - (intOf i).toNat)
      case atStart => exact ⟨0, Nat.zero_le _, rfl, rfl, hx⟩
      case round =>
        obtain ⟨j, hj, rfl, hno2, hx2⟩ := hrel
        by_cases hlt2 : j < k
        · have hcj := cellE hx2 (hcc0 j (by omega)) (by rw [block_of_add]; exact hcb)
          have xx := (Ext.rfl' wr).al (.cells #[.int .i64 (num cells k), .int .i64 (num cells j)] 3)
          have hs := mSome_ok _ q pos g m (h.to ((hW.tr hx2).tr xx)) 1 (some ⟨wr.heap.size, 0, none⟩) 2 [num cells k, num cells j] (RInts.pair rfl _ (hci k hlt) (hci j (by omega))) (by simp) (by simp) 84 #[] (fun _ => true) (fun _ _ => by kernel_rfl) (mDiff1_ask _ _)
          rw [pair_eq] at hs
          have Hs := hid hs; clear hs
          cases hpb : pairB q (num cells k) (num cells j)
          · rw [hpb] at Hs
            have Hpb := hid hpb; clear hpb
            go_wp2_with fail
            refine Hs.out.mono ?_
            rintro e w1 ⟨rfl, hb⟩
            go_wp2_with fail
            go_ret
            exact ⟨ret_bool (rall_bad hlt (rall_bad hlt2 Hpb.out)).symm, (hx2.tr xx).tr hb⟩
          · rw [hpb] at Hs
            have Hpb := hid hpb; clear hpb
            go_wp2_with fail
            refine Hs.out.mono ?_
            rintro e w1 ⟨rfl, hb⟩
            go_wp2_with fail
            go_roundw
            case rel => exact ⟨j + 1, by omega, by go_num, rall_on hno2 Hpb.out, (hx2.tr xx).tr hb⟩
            case measure => simp [intOf]; omega
        · go_wp2_with fail
          go_roundw
          case rel => exact ⟨k + 1, by omega, by go_num, rall_on hno (rall_end hno2 hj hlt2), hx2⟩
          case measure => simp [intOf]; omega
    · go_wp2_with fail
      go_ret
      exact ⟨ret_bool (rall_end hno hk hlt).symm, hx⟩
end Go.Proofs.YtimkijmjbnmcbaaGreat
namespace Go.Proofs.YtimkijmjbnmcbaaGreat
open Go Go.RowKit
/-- What the closure of home has captured. -/
structure HomeCap (w : World) (g a b c : Nat) (C : Option Addr) (cn : Nat) (D : Option Addr) (dn : Nat) (cells letters : List Int) : Prop where
  lta : a < w.heap.size
  ltb : b < w.heap.size
  ltc : c < w.heap.size
  ca : w.cell? ⟨a, 0, none⟩ = some (.pointer (some ⟨g, 0, none⟩))
  cb : w.cell? ⟨b, 0, none⟩ = some (.slice D letters.length dn)
  cc : w.cell? ⟨c, 0, none⟩ = some (.slice C cells.length cn)
theorem HomeCap.to {w w' : World} {g a b c : Nat} {C : Option Addr} {cn : Nat} {D : Option Addr} {dn : Nat} {cells letters : List Int} (h : HomeCap w g a b c C cn D dn cells letters) (hb : Ext w w') : HomeCap w' g a b c C cn D dn cells letters :=
  ⟨hb.lt h.lta, hb.lt h.ltb, hb.lt h.ltc, cellE hb h.ca h.lta, cellE hb h.cb h.ltb, cellE hb h.cc h.ltc⟩
set_option maxHeartbeats 2000000 in
set_option maxRecDepth 100000 in
theorem mHome1_ask (w : World) (q : Problem) (pos : List Int) (g : Nat) (m : MPtr) (h : RMat w q pos g m) (a b c : Nat) (C : Option Addr) (cn : Nat) (D : Option Addr) (dn : Nat) (cells letters : List Int) (hcap : HomeCap w g a b c C cn D dn cells letters) (hC : RInts w C cells) (hD : RInts w D letters)
    (hl : 0 < letters.length) (hs : 0 ≤ num letters 0) (hs2 : num letters 0 < 16) (hi : ∀ x ∈ q.cons, Idx x.cells pos.length) :
    AskCons w 85 #[.pointer (some ⟨a, 0, none⟩), .pointer (some ⟨b, 0, none⟩), .pointer (some ⟨c, 0, none⟩)] (homeP q pos cells (num letters 0)) q.cons := by
  obtain ⟨⟨pa, pac, pb, pbc, pc, pcc⟩, P, pn, mb⟩ := m
  intro W0 x A an B bn hW0 hx hA hB _
  have xx := (Ext.rfl' W0).al (consO x A an B bn)
  have hix := hi x hx
  have Hix := hid hix; clear hix hi
  obtain ⟨dd, rfl, hdb, hdc, _⟩ := (hD.to hW0).num hl
  have hd0 := hdc 0 hl
  rw [add_0] at hd0
  have F : ∀ V, Ext (W0.alloc (consO x A an B bn)) V → V.cell? ⟨a, 0, none⟩ = some (.pointer (some ⟨g, 0, none⟩)) ∧ V.cell? ⟨b, 0, none⟩ = some (.slice (some dd) letters.length dn) ∧ V.cell? ⟨c, 0, none⟩ = some (.slice C cells.length cn) ∧
      V.cell? ⟨g, 1, none⟩ = some (.int .i64 q.symbols) ∧ V.cell? ⟨g, 5, none⟩ = some (.slice P pos.length pn) ∧ V.cell? dd = some (.int .i64 (num letters 0)) ∧ V.cell? ⟨W0.heap.size, 1, none⟩ = some (.slice A x.cells.length an) := fun V hV => by
    have h1 := hcap.to (hW0.tr (xx.tr hV))
    have h2 := h.to (hW0.tr (xx.tr hV))
    exact ⟨h1.ca, h1.cb, h1.cc, h2.c1, h2.c5, cellE (xx.tr hV) hd0 hdb, boxE hV rfl 1 _ rfl⟩
  have HF := hid F; clear F hdc hd0
  have hal := hA.len
  show Calls Tryz.prog 85 #[consV x A an B bn, .pointer (some ⟨a, 0, none⟩), .pointer (some ⟨b, 0, none⟩), .pointer (some ⟨c, 0, none⟩)] W0 _
  cases e1 : ((x.cells.length : Int) == q.symbols)
  · have e1' : ((x.cells.length : Int) != q.symbols) = true := by rw [bne, e1]; rfl
    have E1 := hid e1; clear e1
    go_enter Tryz.func85, Tryz.ntmps85
    go_wp2_with fail
    (refine wp_region_sf (fun _ => none) (by kernel_rfl) (by kernel_rfl) ?_); (repeat (first | (refine wpE_skipK ?_ ?_; (focus ((first | refine wanted_notF rfl rfl ?_ | refine wanted_notT rfl rfl ?_); (focus (simp only [List.getElem?_toArray, List.getElem?_cons_succ, List.getElem?_cons_zero]; done)))); intro K hK; go_simp; apply hK; clear hK K; (have hq9 : True := trivial); clear hq9) | (refine wpE_detN rfl rfl (fun K hK => ?_); apply Exists.intro; apply And.intro; (focus (rintro W ⟨hx, -⟩; obtain ⟨f0, f1, f2, f3, f4, f5, f6⟩ := HF.out W hx; go_simp; all_goals rfl)); go_simp; apply hK; clear hK K; (have hq9 : True := trivial); clear hq9) | (refine wpE_detK rfl ?_ ?_; (focus (refine wanted_so rfl rfl ?_; (focus (simp only [List.getElem?_toArray, List.getElem?_cons_succ, List.getElem?_cons_zero]; done)))); intro K hK; apply Exists.intro; apply And.intro; (focus (rintro W ⟨hx, -⟩; obtain ⟨f0, f1, f2, f3, f4, f5, f6⟩ := HF.out W hx; go_simp; all_goals rfl)); go_simp; apply hK; clear hK K; (have hq9 : True := trivial); clear hq9))); (apply wpE_nil); (rintro W ⟨hW, hG⟩); clear hG
    go_wp2_with fail
    go_ret
    exact ⟨ret_bool (by unfold homeP; rw [E1.out]; rfl), xx.tr hW⟩
  have e1' : ((x.cells.length : Int) != q.symbols) = false := by rw [bne, e1]; rfl
  have E1 := hid e1; clear e1
  go_enter Tryz.func85, Tryz.ntmps85
  go_wp2_with fail
  (refine wp_region_sf (fun _ => none) (by kernel_rfl) (by kernel_rfl) ?_); (repeat (first | (refine wpE_skipK ?_ ?_; (focus ((first | refine wanted_notF rfl rfl ?_ | refine wanted_notT rfl rfl ?_); (focus (simp only [List.getElem?_toArray, List.getElem?_cons_succ, List.getElem?_cons_zero]; done)))); intro K hK; go_simp; apply hK; clear hK K; (have hq9 : True := trivial); clear hq9) | (refine wpE_detN rfl rfl (fun K hK => ?_); apply Exists.intro; apply And.intro; (focus (rintro W ⟨hx, -⟩; obtain ⟨f0, f1, f2, f3, f4, f5, f6⟩ := HF.out W hx; go_simp; all_goals rfl)); go_simp; apply hK; clear hK K; (have hq9 : True := trivial); clear hq9) | (refine wpE_detK rfl ?_ ?_; (focus (refine wanted_so rfl rfl ?_; (focus (simp only [List.getElem?_toArray, List.getElem?_cons_succ, List.getElem?_cons_zero]; done)))); intro K hK; apply Exists.intro; apply And.intro; (focus (rintro W ⟨hx, -⟩; obtain ⟨f0, f1, f2, f3, f4, f5, f6⟩ := HF.out W hx; go_simp; all_goals rfl)); go_simp; apply hK; clear hK K; (have hq9 : True := trivial); clear hq9))); (apply wpE_nil); (rintro W ⟨hW, hG⟩); clear hG
  obtain ⟨-, -, -, -, -, -, f6⟩ := HF.out W hW
  go_wp2_with fail
  go_loopw [7, 20] (fun _ i wr => ∃ k : Nat, k ≤ x.cells.length ∧ i = .int .i64 k ∧ Hid ((x.cells.take k).all (homeAt pos cells (num letters 0)) = true) ∧ Ext (W0.alloc (consO x A an B bn)) wr) (fun _ i _ => x.cells.length - (intOf i).toNat)
  case atStart => exact ⟨0, Nat.zero_le _, rfl, rfl, hW⟩
  case round =>
    clear hW f6
    obtain ⟨k, hk, rfl, hno, hxr⟩ := hrel
    by_cases hlt : k < x.cells.length
    · obtain ⟨ad, rfl, _, hac, _⟩ := (hA.to (xx.tr hxr)).at_ k hlt
      obtain ⟨i1, i2⟩ := Hix.out _ (List.getElem_mem hlt)
      obtain ⟨bd, hP, hpb, hpc, _⟩ := (h.pos.to (hW0.tr (xx.tr hxr))).num (by omega)
      dsimp only at hP
      subst hP
      have hp1 := hpc x.cells[k].toNat (by omega)
      have hb := shr_bit (x := num pos x.cells[k].toNat) hs (by omega)
      have F2 : ∀ V, Ext wr V → V.cell? ⟨a, 0, none⟩ = some (.pointer (some ⟨g, 0, none⟩)) ∧ V.cell? ⟨b, 0, none⟩ = some (.slice (some dd) letters.length dn) ∧ V.cell? ⟨c, 0, none⟩ = some (.slice C cells.length cn) ∧
          V.cell? ⟨g, 5, none⟩ = some (.slice (some bd) pos.length pn) ∧ V.cell? dd = some (.int .i64 (num letters 0)) ∧ V.cell? (bd.add x.cells[k].toNat) = some (.int .i64 (num pos x.cells[k].toNat)) := fun V hV => by
        obtain ⟨f0, f1, f2, f3, f4, f5, f6⟩ := HF.out V (hxr.tr hV)
        exact ⟨f0, f1, f2, f4, f5, cellE hV hp1 (by rw [block_of_add]; exact hpb)⟩
      have HF2 := hid F2; clear F2 hpc hp1
      have RC := (hC.to hW0).to (xx.tr hxr)
      cases e5 : hasS (num pos x.cells[k].toNat) (num letters 0).toNat
      · rw [e5] at hb
        have E5 := hid e5; clear e5
        go_wp2_with fail
        (refine wp_region_sf (fun _ => none) (by kernel_rfl) (by kernel_rfl) ?_); (repeat (first | (refine wpE_skipK ?_ ?_; (focus ((first | refine wanted_notF rfl rfl ?_ | refine wanted_notT rfl rfl ?_); (focus (simp only [List.getElem?_toArray, List.getElem?_cons_succ, List.getElem?_cons_zero]; done)))); intro K hK; go_simp; apply hK; clear hK K; (have hq9 : True := trivial); clear hq9) | (refine wpE_detN rfl rfl (fun K hK => ?_); apply Exists.intro; apply And.intro; (focus (rintro W ⟨hx, -⟩; obtain ⟨f0, f1, f2, f3, f4, f5⟩ := HF2.out W hx; go_simp; all_goals rfl)); go_simp; apply hK; clear hK K; (have hq9 : True := trivial); clear hq9) | (refine wpE_detK rfl ?_ ?_; (focus (refine wanted_so rfl rfl ?_; (focus (simp only [List.getElem?_toArray, List.getElem?_cons_succ, List.getElem?_cons_zero]; done)))); intro K hK; apply Exists.intro; apply And.intro; (focus (rintro W ⟨hx, -⟩; obtain ⟨f0, f1, f2, f3, f4, f5⟩ := HF2.out W hx; go_simp; all_goals rfl)); go_simp; apply hK; clear hK K; (have hq9 : True := trivial); clear hq9))); (apply wpE_nil); (rintro W ⟨hW, hG⟩); clear hG
        go_wp2_with fail
        go_roundw
        case rel => exact ⟨k + 1, by omega, by go_num, all_on hlt hno (by unfold homeAt; rw [E5.out, Bool.not_false, Bool.or_true]), hxr.tr hW⟩
        case measure => simp [intOf]; omega
      · rw [e5] at hb
        have E5 := hid e5; clear e5
        go_wp2_with fail
        (refine wp_region_sf (fun | 16 => some (SF.val (.bool (memB cells x.cells[k]))) | _ => none) (by kernel_rfl) (by kernel_rfl) ?_); (repeat (first | (refine wpE_skipK ?_ ?_; (focus ((first | refine wanted_notF rfl rfl ?_ | refine wanted_notT rfl rfl ?_); (focus (simp only [List.getElem?_toArray, List.getElem?_cons_succ, List.getElem?_cons_zero]; done)))); intro K hK; go_simp; apply hK; clear hK K; (have hq9 : True := trivial); clear hq9) | (refine wpE_detN rfl rfl (fun K hK => ?_); apply Exists.intro; apply And.intro; (focus (rintro W ⟨hx, -⟩; obtain ⟨f0, f1, f2, f3, f4, f5⟩ := HF2.out W hx; go_simp; all_goals rfl)); go_simp; apply hK; clear hK K; (have hq9 : True := trivial); clear hq9) | (refine wpE_detK rfl ?_ ?_; (focus (refine wanted_so rfl rfl ?_; (focus (simp only [List.getElem?_toArray, List.getElem?_cons_succ, List.getElem?_cons_zero]; done)))); intro K hK; apply Exists.intro; apply And.intro; (focus (rintro W ⟨hx, -⟩; obtain ⟨f0, f1, f2, f3, f4, f5⟩ := HF2.out W hx; go_simp; all_goals rfl)); go_simp; apply hK; clear hK K; (have hq9 : True := trivial); clear hq9))); (first | refine wpE_newN _ rfl rfl ?_ ?_ | (refine wpE_newK _ rfl ?_ ?_ ?_; (focus (refine wanted_so rfl rfl ?_; (focus (simp only [List.getElem?_toArray, List.getElem?_cons_succ, List.getElem?_cons_zero]; done)))))); (focus (rintro W ⟨hW, -⟩; go_simp; exact ⟨Ext.rfl' _, (containsInt_x W C cn _ (RC.to hW) _).mono fun e W' ⟨he, hb⟩ => ⟨_, he, hb, rfl⟩⟩)); (rintro _ ⟨_, rfl⟩ K hK); (go_simp; apply hK; clear hK K; (have hq9 : True := trivial); clear hq9); (repeat (first | (refine wpE_skipK ?_ ?_; (focus ((first | refine wanted_notF rfl rfl ?_ | refine wanted_notT rfl rfl ?_); (focus (simp only [List.getElem?_toArray, List.getElem?_cons_succ, List.getElem?_cons_zero]; done)))); intro K hK; go_simp; apply hK; clear hK K; (have hq9 : True := trivial); clear hq9) | (refine wpE_detN rfl rfl (fun K hK => ?_); apply Exists.intro; apply And.intro; (focus (rintro W ⟨hx, -⟩; obtain ⟨f0, f1, f2, f3, f4, f5⟩ := HF2.out W hx; go_simp; all_goals rfl)); go_simp; apply hK; clear hK K; (have hq9 : True := trivial); clear hq9) | (refine wpE_detK rfl ?_ ?_; (focus (refine wanted_so rfl rfl ?_; (focus (simp only [List.getElem?_toArray, List.getElem?_cons_succ, List.getElem?_cons_zero]; done)))); intro K hK; apply Exists.intro; apply And.intro; (focus (rintro W ⟨hx, -⟩; obtain ⟨f0, f1, f2, f3, f4, f5⟩ := HF2.out W hx; go_simp; all_goals rfl)); go_simp; apply hK; clear hK K; (have hq9 : True := trivial); clear hq9))); (apply wpE_nil); (rintro W ⟨hW, hG⟩); clear hG
        cases e4 : memB cells x.cells[k]
        · go_wp2_with fail
          go_ret
          exact ⟨ret_bool (by unfold homeP; rw [E1.out, all_of_at k hlt (p := homeAt pos cells (num letters 0)) (by unfold homeAt; rw [e4, E5.out]; rfl)]; rfl), (xx.tr hxr).tr hW⟩
        · go_wp2_with fail
          go_roundw
          case rel => exact ⟨k + 1, by omega, by go_num, all_on hlt hno (by unfold homeAt; rw [e4]; rfl), hxr.tr hW⟩
          case measure => simp [intOf]; omega
    · go_wp2_with fail
      go_ret
      exact ⟨ret_bool (by unfold homeP; rw [E1.out]; exact (all_end hno hlt).symm), xx.tr hxr⟩
set_option maxHeartbeats 1000000 in
theorem mHome_ok (w : World) (q : Problem) (pos : List Int) (g : Nat) (m : MPtr) (h : RMat w q pos g m) (cells letters : List Int) (n : Int) (hp : 0 < cells.length) (hl : 0 < letters.length) (hs : 0 ≤ num letters 0) (hs2 : num letters 0 < 16) (hi : ∀ x ∈ q.cons, Idx x.cells pos.length) :
    MetAsk w g 49 cells letters n (someB q 1 cells (homeP q pos cells (num letters 0))) := by
  intro W C cn D dn hW hC hcap hD
  have xx := (((Ext.rfl' W).al (.cells #[.pointer (some ⟨g, 0, none⟩)] 72)).al (.cells #[.slice C cells.length cn] 22)).al (.cells #[.slice D letters.length dn] 22)
  have hc : HomeCap (((W.alloc (.cells #[.pointer (some ⟨g, 0, none⟩)] 72)).alloc (.cells #[.slice C cells.length cn] 22)).alloc (.cells #[.slice D letters.length dn] 22)) g W.heap.size (W.heap.size + 2) (W.heap.size + 1) C cn D dn cells letters := by
    refine ⟨by simp; omega, by simp, by simp, ?_, ?_, ?_⟩ <;> simp [go_sem]
  have hask := mHome1_ask _ q pos g m (h.to (hW.tr xx)) _ _ _ C cn D dn cells letters hc (hC.to xx) (hD.to xx) hl hs hs2 hi
  have hs := mSome_ok _ q pos g m (h.to (hW.tr xx)) 1 C cn cells (hC.to xx) hp hcap 85 _ _ (fun _ _ => by kernel_rfl) hask
  have Hs := hid hs; clear hs hask hc
  go_enter Tryz.func49, Tryz.ntmps49
  go_wp2_with fail
  refine Hs.out.mono ?_
  rintro e w1 ⟨rfl, hb⟩
  go_wp2_with fail
  go_ret
  exact ⟨rfl, xx.tr hb⟩
end Go.Proofs.YtimkijmjbnmcbaaGreat
namespace Go.Proofs.YtimkijmjbnmcbaaGreat
open Go Go.RowKit
/-- A block of integers. -/
def IntBlk (w : World) (b : Nat) : Prop := ∃ cs r, w.heap[b]? = some (.cells cs 3 r)
theorem OwnI.intBlk {w : World} {base : Nat} {A : Option Addr} {n c : Nat} {l : List Int} (h : OwnI w base (.slice A n c) l) (ad : Addr) (hA : A = some ad) : IntBlk w ad.block := by
  rcases h.row.2 with ⟨e, h0⟩ | ⟨g, cap, cur, e, hb, hg, h1, h2, h3, h4⟩
  · injection e with e1; rw [hA] at e1; cases e1
  · injection e with e1 e2 e3
    rw [hA] at e1
    injection e1 with e1
    subst e1
    exact ⟨cur, _, hg⟩
/-- A copy: it lies in new memory. -/
def RetCopy (w : World) (l : List Int) (e : Ending) (w' : World) : Prop := ∃ A c, e = .returned (.slice A l.length c) ∧ RInts w' A l ∧ l.length ≤ c ∧ (∀ ad, A = some ad → w.heap.size ≤ ad.block ∧ ad.block < w'.heap.size ∧ 0 < l.length ∧ IntBlk w' ad.block) ∧ Ext w w'
theorem own_empty (w : World) : OwnI (w.alloc (.cells #[] 3)) w.heap.size (.slice (some ⟨w.heap.size, 0, none⟩) 0 0) [] :=
  ⟨⟨rfl, .inr ⟨w.heap.size, 0, #[], rfl, Nat.le_refl _, World.alloc_heap_new w _, Nat.le_refl _, by simp [maxLen], rfl, rfl⟩⟩, by simp, by simp⟩
set_option maxRecDepth 100000 in
theorem sClone_ok (w : World) (A : Option Addr) (c : Nat) (l : List Int) (h : RInts w A l) (h0 : A = none → c = 0) (h1 : ∀ ad, A = some ad → 0 < l.length) : Calls Tryz.prog 69 #[.slice A l.length c] w (RetCopy w l) := by
  cases A with
  | none =>
    obtain rfl := h0 rfl
    have hl : l = [] := by
      cases l with
      | nil => rfl
      | cons x l =>
        obtain ⟨ad, e, _⟩ := h.2 (by simp)
        cases e
    subst hl
    have hq : ∀ W : World, (binOp .eql 22 (.slice none 0 0) (.slice none 0 0)).run Tryz.prog W = .ok (.bool true) W := fun W => by kernel_rfl
    go_enter Tryz.func69, Tryz.ntmps69
    go_wp2_with fail
    go_ret
    exact ⟨none, 0, rfl, RInts.nil _ _, Nat.le_refl _, by simp, Ext.rfl' _⟩
  | some ad =>
    have hp := h1 ad rfl
    obtain ⟨ad', e, hb, hc, hi⟩ := h.num hp
    injection e with e
    subst e
    have hl := h.len
    have hq : ∀ (W : World) (n : Nat), (binOp .eql 22 (.slice (some ad) n c) (.slice none 0 0)).run Tryz.prog W = .ok (.bool false) W := fun W n => by kernel_rfl
    go_enter Tryz.func69, Tryz.ntmps69
    have x0 : Ext w (w.alloc (.cells #[] 3)) := (Ext.rfl' w).al _
    have hnum : ∀ (j : Nat) (hj : j < l.length), (w.alloc (.cells #[] 3)).cell? (ad.add j) = some (.int .i64 l[j]) := fun j hj => by
      rw [cellE x0 (hc j hj) (by rw [block_of_add]; exact hb), num_eq hj]
    have hi64 : ∀ x ∈ l, I64 x := fun x hx => by
      obtain ⟨j, hj, rfl⟩ := List.getElem_of_mem hx
      rw [← num_eq hj]; exact hi j hj
    have Hn := hid hnum; have Hi := hid hi64; clear hnum hi64 hc hi
    go_wp2_with (at_builtin; refine app_own w x0 rfl _ _ rfl (some ⟨w.heap.size, 0, none⟩) 0 0 [] rfl rfl (own_empty w) ad l.length c rfl l rfl Hn.out Hi.out (by simp; omega) ?_; intro A' c' w2 hown2 hx2 hg2)
    rw [List.nil_append] at hown2
    obtain ⟨A2, c2, e2, hr2, hb2⟩ := hown2.form
    injection e2 with e3 e4 e5
    subst e3 e5
    have hcap := hown2.cap
    have Hib := hid hown2.intBlk
    clear hq
    go_wp2_with fail
    go_ret
    exact ⟨A', c', rfl, hr2, hcap, fun ad h => ⟨(hb2 ad h).2, (hb2 ad h).1, hp, Hib.out ad h⟩, hx2⟩
end Go.Proofs.YtimkijmjbnmcbaaGreat
