/- Contracts: what a cell can have is changed, in both texts. -/
import Derived.Test.YtjinbjkbchnhpaaCk
import Derived.Test.YtjinbjkbchnhpaaSf
namespace Go.Proofs.Ytjinbjkbchnhpaa
open Go.RowKit

/-- What is returned where the cell's new set is v. -/
def chgE (q : Problem) (pos : List Int) (cell symbol : Int) : Int :=
  if checkB q pos then (if 0 ≤ cell ∧ cell < q.cells ∧ 0 ≤ symbol ∧ symbol < q.symbols then 0 else 1) else checkE q pos
def chgL (q : Problem) (pos : List Int) (cell symbol : Int) (f : Int → Int) : List Int :=
  if checkB q pos && decide (0 ≤ cell ∧ cell < q.cells ∧ 0 ≤ symbol ∧ symbol < q.symbols) then normL (pos.set cell.toNat (f (num pos cell.toNat))) else []
theorem chg_bad {q : Problem} {pos : List Int} (h : checkB q pos = false) (cell symbol : Int) (f : Int → Int) : chgE q pos cell symbol = checkE q pos ∧ chgL q pos cell symbol f = [] := by simp [chgE, chgL, h]
theorem chg_arg {q : Problem} {pos : List Int} (h : checkB q pos = true) {cell symbol : Int} (h2 : ¬ (0 ≤ cell ∧ cell < q.cells ∧ 0 ≤ symbol ∧ symbol < q.symbols)) (f : Int → Int) : chgE q pos cell symbol = 1 ∧ chgL q pos cell symbol f = [] := by
  simp only [chgE, chgL, h, decide_eq_false h2, if_neg h2]; simp
theorem chg_good {q : Problem} {pos : List Int} (h : checkB q pos = true) {cell symbol : Int} (h2 : 0 ≤ cell ∧ cell < q.cells ∧ 0 ≤ symbol ∧ symbol < q.symbols) (f : Int → Int) : chgE q pos cell symbol = 0 ∧ chgL q pos cell symbol f = normL (pos.set cell.toNat (f (num pos cell.toNat))) := by
  simp only [chgE, chgL, h, decide_eq_true h2, if_pos h2]; simp
theorem checkB_bd {q : Problem} {pos : List Int} (h : checkB q pos = true) : 1 ≤ q.cells ∧ q.cells ≤ 256 ∧ 1 ≤ q.symbols ∧ q.symbols ≤ 16 ∧ (pos.length : Int) ≤ q.cells ∧ q.cells ≤ pos.length := by
  simp only [checkB, okPos, Bool.and_eq_true, decide_eq_true_eq] at h
  have := valid_bd h.1
  omega
theorem checkE_ok {q : Problem} {pos : List Int} (h : checkB q pos = true) : checkE q pos = 0 := by
  simp only [checkB, Bool.and_eq_true] at h
  exact checkE_good h.1 h.2
theorem checkE_no {q : Problem} {pos : List Int} (h : checkB q pos = false) : (checkE q pos != 0) = true := by
  simp only [checkB, Bool.and_eq_false_iff] at h
  unfold checkE
  rcases h with h | h
  · simp [h]
  · simp only [h]; split <;> decide

theorem i64_wrap64 (x : Int) : I64 (wrap64 x) := by unfold wrap64; exact ⟨by omega, by omega⟩
/-- Two results: a list of integers and an error. -/
def RetIE (w : World) (l : List Int) (er : Int) (e : Ending) (w' : World) : Prop := ∃ A c, e = .returned (.tuple #[.slice A l.length c, .int .i64 er]) ∧ RInts w' A l ∧ Ext w w'
/-- What a method on sets does. -/
def AskSet (w : World) (k : Nat) (g : Int → Int → Int) (n : Int) : Prop :=
  ∀ W s, Ext w W → Calls Try.prog k #[.int .u64 s, .int .i64 n] W fun e W' => e = .returned (.int .u64 (g s n)) ∧ W = W'

set_option maxRecDepth 100000 in
set_option maxHeartbeats 1000000 in
theorem pchange_ok (w : World) (q : Problem) (p : PPtr) (A : Option Addr) (c : Nat) (pos : List Int) (cell symbol : Int) (h : RProb w q p) (hp : RInts w A pos) (k : Nat) (g : Int → Int → Int)
    (hcf : ∀ xs W, (callFunc k xs).run Try.prog W = .ok (.enter k xs) W) (ask : 0 ≤ symbol → symbol < 16 → AskSet w k g symbol) :
    Calls Try.prog 27 #[probV q p, .slice A pos.length c, .int .i64 cell, .int .i64 symbol, .func (.func k) #[] #[]] w fun e w' =>
      RetIE w (chgL q pos cell symbol fun x => wrap64 (g (IntKind.u64.wrap x) symbol)) (chgE q pos cell symbol) e w' := by
  have x0 := (Ext.rfl' w).al (probO q p)
  have hpl := hp.len
  cases hB : checkB q pos
  · have he := checkE_no hB
    obtain ⟨r1, r2⟩ := chg_bad hB cell symbol fun x => wrap64 (g (IntKind.u64.wrap x) symbol)
    have R1 := hid r1; have R2 := hid r2
    clear hB r1 r2 ask
    go_enter Try.func27, Try.ntmps27
    go_wp2_with (go_at_call 13; refine (pCheck_ok _ q p A c pos (h.to x0) (hp.to x0)).mono ?_; rintro e w1 ⟨rfl, hb1⟩; obtain ⟨f0, f1, f2, f3, f4⟩ := probBox hb1 rfl)
    go_ret2
    rw [RetIE, R1.out, R2.out]
    exact ⟨none, 0, rfl, RInts.nil _ _, x0.tr hb1⟩
  · have he := checkE_ok hB
    have hbd := checkB_bd hB
    by_cases hr : 0 ≤ cell ∧ cell < q.cells ∧ 0 ≤ symbol ∧ symbol < q.symbols
    · obtain ⟨r1, r2⟩ := chg_good hB hr fun x => wrap64 (g (IntKind.u64.wrap x) symbol)
      have R1 := hid r1; have R2 := hid r2
      clear hB r1 r2
      have Ask := hid (ask (by omega) (by omega)); clear ask
      obtain ⟨h1, h2, h3, h4⟩ := hr
      obtain ⟨ad, rfl, hab, -, -⟩ := hp.num (by omega)
      go_enter Try.func27, Try.ntmps27
      go_wp2_with (first
        | (go_at_call 13; refine (pCheck_ok _ q p _ c pos (h.to x0) (hp.to x0)).mono ?_; rintro e w1 ⟨rfl, hb1⟩; obtain ⟨f0, f1, f2, f3, f4⟩ := probBox hb1 rfl)
        | (at_builtin; refine app_own w1 ((Ext.rfl' _).al _) rfl _ _ rfl (some ⟨w1.heap.size, 0, none⟩) 0 0 [] rfl rfl (OwnI.empty w1) ad pos.length c rfl pos rfl (hp.to ((x0.tr hb1).al _)).cells hp.i64 (by simp; omega) ?_; intro A' c' w2 hown2 hx2 _; obtain ⟨gg, rfl, hge, hgl⟩ := hown2.some_ (by simp; omega); obtain ⟨hc, hf⟩ := hown2.cellAt cell.toNat (by simp; omega)))
      have hown3 : OwnI w2 w1.heap.size (.slice (some ⟨gg, 0, none⟩) pos.length c') pos := hown2
      clear hown2 f0 f1 f2 f3 f4
      refine (Ask.out w2 _ ((x0.tr hb1).tr hx2)).mono ?_
      rintro e w3 ⟨rfl, rfl⟩
      have hv := i64_wrap64 (g (IntKind.u64.wrap (num pos cell.toNat)) symbol)
      have hown4 := hown3.set_ cell.toNat (by omega) _ hv
      have Hv := hid hv; clear hv
      go_wp2_with fail
      have hn := normal_ok _ _ c' _ hown4.ints
      rw [List.length_set] at hn
      refine hn.mono ?_
      rintro e w4 ⟨B, d, rfl, hr4, hx4⟩
      go_wp2_with fail
      go_ret2
      rw [RetIE, R1.out, R2.out]
      refine ⟨B, d, ?_, hr4, ((x0.tr hb1).tr (hx2.set hge _)).tr hx4⟩
      rw [normL_len, List.length_set]
      rfl
    · obtain ⟨r1, r2⟩ := chg_arg hB hr fun x => wrap64 (g (IntKind.u64.wrap x) symbol)
      have R1 := hid r1; have R2 := hid r2
      clear hB r1 r2 ask
      by_cases h1 : 0 ≤ cell ∧ cell < q.cells
      · by_cases h2 : 0 ≤ symbol
        all_goals
          go_enter Try.func27, Try.ntmps27
          go_wp2_with (go_at_call 13; refine (pCheck_ok _ q p _ c pos (h.to x0) (hp.to x0)).mono ?_; rintro e w1 ⟨rfl, hb1⟩; obtain ⟨f0, f1, f2, f3, f4⟩ := probBox hb1 rfl)
          go_ret2
          rw [RetIE, R1.out, R2.out]
          exact ⟨none, 0, rfl, RInts.nil _ _, x0.tr hb1⟩
      · by_cases h2 : 0 ≤ cell
        all_goals
          go_enter Try.func27, Try.ntmps27
          go_wp2_with (go_at_call 13; refine (pCheck_ok _ q p _ c pos (h.to x0) (hp.to x0)).mono ?_; rintro e w1 ⟨rfl, hb1⟩; obtain ⟨f0, f1, f2, f3, f4⟩ := probBox hb1 rfl)
          go_ret2
          rw [RetIE, R1.out, R2.out]
          exact ⟨none, 0, rfl, RInts.nil _ _, x0.tr hb1⟩

set_option maxRecDepth 100000 in
set_option maxHeartbeats 1000000 in
theorem rchange_ok (w : World) (q : Problem) (p : PPtr) (A : Option Addr) (c : Nat) (pos : List Int) (cell symbol set : Int) (h : RProb w q p) (hp : RInts w A pos) :
    Calls Try.prog 29 #[probV q p, .slice A pos.length c, .int .i64 cell, .int .i64 symbol, .int .i64 set] w fun e w' =>
      RetIE w (chgL q pos cell symbol fun x => bits .and .i64 x set) (chgE q pos cell symbol) e w' := by
  have x0 := (Ext.rfl' w).al (probO q p)
  have hpl := hp.len
  cases hB : checkB q pos
  · have he := checkE_no hB
    obtain ⟨r1, r2⟩ := chg_bad hB cell symbol fun x => bits .and .i64 x set
    have R1 := hid r1; have R2 := hid r2
    clear hB r1 r2
    go_enter Try.func29, Try.ntmps29
    go_wp2_with (go_at_call 14; refine (rCheck_ok _ q p A c pos (h.to x0) (hp.to x0)).mono ?_; rintro e w1 ⟨rfl, hb1⟩; obtain ⟨f0, f1, f2, f3, f4⟩ := probBox hb1 rfl)
    go_ret2
    rw [RetIE, R1.out, R2.out]
    exact ⟨none, 0, rfl, RInts.nil _ _, x0.tr hb1⟩
  · have he := checkE_ok hB
    have hbd := checkB_bd hB
    by_cases hr : 0 ≤ cell ∧ cell < q.cells ∧ 0 ≤ symbol ∧ symbol < q.symbols
    · obtain ⟨r1, r2⟩ := chg_good hB hr fun x => bits .and .i64 x set
      have R1 := hid r1; have R2 := hid r2
      clear hB r1 r2
      obtain ⟨h1, h2, h3, h4⟩ := hr
      obtain ⟨ad, rfl, hab, -, -⟩ := hp.num (by omega)
      go_enter Try.func29, Try.ntmps29
      go_wp2_with (first
        | (go_at_call 14; refine (rCheck_ok _ q p _ c pos (h.to x0) (hp.to x0)).mono ?_; rintro e w1 ⟨rfl, hb1⟩; obtain ⟨f0, f1, f2, f3, f4⟩ := probBox hb1 rfl)
        | (at_builtin; refine app_own w1 (Ext.rfl' _) rfl _ _ rfl none 0 0 [] rfl rfl (OwnI.nil _ _) ad pos.length c rfl pos rfl (hp.to (x0.tr hb1)).cells hp.i64 (by simp; omega) ?_; intro A' c' w2 hown2 hx2 _; obtain ⟨gg, rfl, hge, hgl⟩ := hown2.some_ (by simp; omega); obtain ⟨hc, hf⟩ := hown2.cellAt cell.toNat (by simp; omega))
        | (go_at_call 43
           have hown3 : OwnI w2 w1.heap.size (.slice (some ⟨gg, 0, none⟩) pos.length c') pos := hown2
           have hv : I64 (bits .and .i64 (num pos cell.toNat) set) := by rw [bits_and]; exact i64_toInt _
           have hown4 := hown3.set_ cell.toNat (by omega) _ hv
           have hn := rNormal_ok _ _ c' _ hown4.ints
           rw [List.length_set] at hn
           refine hn.mono ?_
           rintro e w4 ⟨B, d, rfl, hr4, hx4⟩
           clear hn hown4 hown3 hown2 hv))
      go_ret2
      rw [RetIE, R1.out, R2.out]
      refine ⟨B, d, ?_, hr4, ((x0.tr hb1).tr (hx2.set hge _)).tr hx4⟩
      rw [normL_len, List.length_set]
      rfl
    · obtain ⟨r1, r2⟩ := chg_arg hB hr fun x => bits .and .i64 x set
      have R1 := hid r1; have R2 := hid r2
      clear hB r1 r2
      by_cases h1 : 0 ≤ cell ∧ cell < q.cells
      · by_cases h2 : 0 ≤ symbol
        all_goals
          go_enter Try.func29, Try.ntmps29
          go_wp2_with (go_at_call 14; refine (rCheck_ok _ q p _ c pos (h.to x0) (hp.to x0)).mono ?_; rintro e w1 ⟨rfl, hb1⟩; obtain ⟨f0, f1, f2, f3, f4⟩ := probBox hb1 rfl)
          go_ret2
          rw [RetIE, R1.out, R2.out]
          exact ⟨none, 0, rfl, RInts.nil _ _, x0.tr hb1⟩
      · by_cases h2 : 0 ≤ cell
        all_goals
          go_enter Try.func29, Try.ntmps29
          go_wp2_with (go_at_call 14; refine (rCheck_ok _ q p _ c pos (h.to x0) (hp.to x0)).mono ?_; rintro e w1 ⟨rfl, hb1⟩; obtain ⟨f0, f1, f2, f3, f4⟩ := probBox hb1 rfl)
          go_ret2
          rw [RetIE, R1.out, R2.out]
          exact ⟨none, 0, rfl, RInts.nil _ _, x0.tr hb1⟩

/-- Removing a symbol from a set; leaving it alone. -/
def without (n x : Int) : Int := (bv x &&& ~~~ BitVec.twoPow 64 n.toNat).toInt
def only (n x : Int) : Int := (bv x &&& BitVec.twoPow 64 n.toNat).toInt
theorem without_p (n x : Int) : wrap64 (bits .andNot .u64 (IntKind.u64.wrap x) (2 ^ n.toNat)) = without n x := by
  rw [ubits_andNot, wrap64_nat, bv_uwrap, bv_pow]; rfl
theorem only_p (n x : Int) : wrap64 (bits .and .u64 (IntKind.u64.wrap x) (2 ^ n.toNat)) = only n x := by
  rw [ubits_and, wrap64_nat, bv_uwrap, bv_pow]; rfl
theorem without_r (n x : Int) (h : 0 ≤ n ∧ n < 16) : bits .and .i64 x (bits .xor .i64 (-1) (bitI n)) = without n x := by
  rw [bits_and, bits_xor, bv_toInt, bitI, if_pos h, bv_pow]
  have : bv (-1) = BitVec.allOnes 64 := by decide
  rw [this, BitVec.allOnes_xor]; rfl
theorem only_r (n x : Int) (h : 0 ≤ n ∧ n < 16) : bits .and .i64 x (bitI n) = only n x := by
  rw [bits_and, bitI, if_pos h, bv_pow]; rfl
theorem chgL_congr {q : Problem} {pos : List Int} {cell symbol : Int} {f g : Int → Int} (h : 0 ≤ symbol → symbol < 16 → ∀ x, f x = g x) : chgL q pos cell symbol f = chgL q pos cell symbol g := by
  unfold chgL
  by_cases hc : (checkB q pos && decide (0 ≤ cell ∧ cell < q.cells ∧ 0 ≤ symbol ∧ symbol < q.symbols)) = true
  · rw [if_pos hc, if_pos hc]
    rw [Bool.and_eq_true, decide_eq_true_eq] at hc
    have := checkB_bd hc.1
    rw [h (by omega) (by omega)]
  · rw [if_neg hc, if_neg hc]
theorem RetIE.as {w : World} {l l' : List Int} {er : Int} {e : Ending} {w' : World} (h : RetIE w l er e w') (hl : l = l') : RetIE w l' er e w' := hl ▸ h

set_option maxHeartbeats 400000 in
theorem pRemove_ok (w : World) (q : Problem) (p : PPtr) (A : Option Addr) (c : Nat) (pos : List Int) (cell symbol : Int) (h : RProb w q p) (hp : RInts w A pos) :
    Calls Try.prog 15 #[probV q p, .slice A pos.length c, .int .i64 cell, .int .i64 symbol] w fun e w' => RetIE w (chgL q pos cell symbol (without symbol)) (chgE q pos cell symbol) e w' := by
  have x0 := (Ext.rfl' w).al (probO q p)
  go_enter Try.func15, Try.ntmps15
  go_wp2_with (go_at_call 27; refine (pchange_ok _ q p A c pos cell symbol (h.to x0) (hp.to x0) 28 (fun s n => bits .andNot .u64 s (2 ^ n.toNat)) (fun _ _ => by kernel_rfl) (fun h1 h2 W s _ => without_ok W s symbol h1 h2)).mono ?_; rintro e w1 hr; replace hr := hr.as (chgL_congr fun _ _ x => without_p symbol x); obtain ⟨B, d, rfl, hr1, hx1⟩ := hr)
  go_ret2
  exact ⟨B, d, rfl, hr1, x0.tr hx1⟩
set_option maxHeartbeats 400000 in
theorem pFix_ok (w : World) (q : Problem) (p : PPtr) (A : Option Addr) (c : Nat) (pos : List Int) (cell symbol : Int) (h : RProb w q p) (hp : RInts w A pos) :
    Calls Try.prog 17 #[probV q p, .slice A pos.length c, .int .i64 cell, .int .i64 symbol] w fun e w' => RetIE w (chgL q pos cell symbol (only symbol)) (chgE q pos cell symbol) e w' := by
  have x0 := (Ext.rfl' w).al (probO q p)
  go_enter Try.func17, Try.ntmps17
  go_wp2_with (go_at_call 27; refine (pchange_ok _ q p A c pos cell symbol (h.to x0) (hp.to x0) 31 (fun s n => bits .and .u64 s (2 ^ n.toNat)) (fun _ _ => by kernel_rfl) (fun h1 h2 W s _ => only_ok W s symbol h1 h2)).mono ?_; rintro e w1 hr; replace hr := hr.as (chgL_congr fun _ _ x => only_p symbol x); obtain ⟨B, d, rfl, hr1, hx1⟩ := hr)
  go_ret2
  exact ⟨B, d, rfl, hr1, x0.tr hx1⟩
end Go.Proofs.Ytjinbjkbchnhpaa
