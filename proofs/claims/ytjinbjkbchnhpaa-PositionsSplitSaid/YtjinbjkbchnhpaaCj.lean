/- Contracts: positions are checked, in both texts; bits; dead positions. -/
import Derived.Test.YtjinbjkbchnhpaaCi
import Derived.Test.YtjinbjkbchnhpaaBits
namespace Go.Proofs.Ytjinbjkbchnhpaa
open Go.RowKit

/-- All lists' elements are sets of symbols of the problem. -/
def okPos (q : Problem) (pos : List Int) : Bool := decide ((pos.length : Int) = q.cells) && inB 0 (fullS q) pos
def checkB (q : Problem) (pos : List Int) : Bool := validB q && okPos q pos
def checkE (q : Problem) (pos : List Int) : Int := if validB q then (if okPos q pos then 0 else 250) else 191
theorem checkE_invalid {q : Problem} {pos : List Int} (h : validB q = false) : checkE q pos = 191 := by simp [checkE, h]
theorem checkE_bad {q : Problem} {pos : List Int} (h : validB q = true) (h2 : okPos q pos = false) : checkE q pos = 250 := by simp [checkE, h, h2]
theorem checkE_good {q : Problem} {pos : List Int} (h : validB q = true) (h2 : okPos q pos = true) : checkE q pos = 0 := by simp [checkE, h, h2]

theorem fill_step {k n : Nat} (a b : Int) (h : k < n) : (List.replicate k a ++ List.replicate (n - k) b).set k a = List.replicate (k + 1) a ++ List.replicate (n - (k + 1)) b := by
  have e : n - k = (n - (k + 1)) + 1 := by omega
  rw [e, List.set_append_right _ _ (by simp), List.replicate_succ, List.replicate_succ']
  simp
theorem fill_end {k n : Nat} {a : Int} (b : Int) (h : k = n) : List.replicate k a ++ List.replicate (n - k) b = List.replicate n a := by subst h; simp
theorem okPos_bad {q : Problem} {pos : List Int} {k : Nat} (hk : k < pos.length) (h : pos[k] < 0 ∨ 2 ^ q.symbols.toNat ≤ pos[k]) : okPos q pos = false := by
  have : inB 0 (fullS q) pos = false := all_of_at k hk (by simp only [fullS, Bool.and_eq_false_iff, decide_eq_false_iff_not]; omega)
  simp [okPos, this]
theorem okPos_good {q : Problem} {pos : List Int} (h1 : (pos.length : Int) = q.cells) (h2 : inB 0 (fullS q) pos = true) : okPos q pos = true := by simp [okPos, h1, h2]
theorem inB_on {q : Problem} {pos : List Int} {k : Nat} (hk : k < pos.length) (h : inB 0 (fullS q) (pos.take k) = true) (h2 : 0 ≤ pos[k] ∧ pos[k] < 2 ^ q.symbols.toNat) : inB 0 (fullS q) (pos.take (k + 1)) = true :=
  all_on hk h (by simp only [fullS, Bool.and_eq_true, decide_eq_true_eq]; omega)

set_option maxHeartbeats 1000000 in
theorem rStart_ok (w : World) (q : Problem) (p : PPtr) (h : RProb w q p) :
    Calls Try.prog 11 #[probV q p] w fun e w' => ∃ A c, e = .returned (.tuple #[.slice A (startL q).length c, .int .i64 (validE q)]) ∧ RInts w' A (startL q) ∧ Ext w w' := by
  have x0 := (Ext.rfl' w).al (probO q p)
  cases hv : validB q
  · have he : (validE q != 0) = true := by simp [validE, hv]
    have hs : startL q = [] := by simp [startL, hv]
    have Hs := hid hs; clear hs
    clear hv
    go_enter Try.func11, Try.ntmps11
    go_wp2_with (go_at_call 26; refine (valid19_ok _ q p (h.to x0)).mono ?_; rintro e w1 ⟨rfl, hb1⟩; obtain ⟨f0, f1, f2, f3, f4⟩ := probBox hb1 rfl)
    go_ret2
    rw [Hs.out]
    exact ⟨none, 0, rfl, RInts.nil _ _, x0.tr hb1⟩
  · have he : validE q = 0 := by simp [validE, hv]
    have hd := valid_bd hv
    obtain ⟨n, hn, hn'⟩ : ∃ n : Nat, n = q.cells.toNat ∧ (n ≤ q.cells ∧ q.cells ≤ n) := ⟨_, rfl, by omega⟩
    have hs : startL q = List.replicate n (fullS q) := by simp [startL, hv, hn]
    clear hn
    have Hs := hid hs; clear hs
    have hp := pow_bd q.symbols (by omega) (by omega)
    have hM : I64 (fullS q) := by unfold fullS; exact ⟨by omega, by omega⟩
    have HM := hid hM; clear hM
    clear hv
    go_enter Try.func11, Try.ntmps11
    go_wp2_with (first
      | (go_at_call 26; refine (valid19_ok _ q p (h.to x0)).mono ?_; rintro e w1 ⟨rfl, hb1⟩; obtain ⟨f0, f1, f2, f3, f4⟩ := probBox hb1 rfl)
      | (at_make; refine make_own rfl _ _ rfl n _ _ rfl rfl (by omega) (by omega) (by omega) ?_; intro w2 hown2 hx2 _))
    have x1 := x0.tr hb1
    clear f0 f1 f2 f3 f4
    go_loopw [6] (fun i wr => ∃ k : Nat, k ≤ n ∧ i = .int .i64 k ∧ OwnI wr w1.heap.size (.slice (some ⟨w1.heap.size, 0, none⟩) n n) (List.replicate k (fullS q) ++ List.replicate (n - k) 0) ∧ Ext w1 wr) (fun i _ => n - (intOf i).toNat)
    case atStart => exact ⟨0, Nat.zero_le _, rfl, hown2, hx2⟩
    case round =>
      obtain ⟨k, hk, rfl, hown, hx⟩ := hrel
      obtain ⟨f0, f1, f2, f3, f4⟩ := probBox (hb1.tr hx) rfl
      by_cases hlt : k < n
      · obtain ⟨hc, hf⟩ := hown.cellAt k hlt
        go_wp2_with fail
        go_roundw
        case rel => exact ⟨k + 1, by omega, by go_num, (hown.set_ k hlt (fullS q) HM.out).as rfl (fill_step _ _ hlt), hx.set (Nat.le_refl _) _⟩
        case measure => simp [intOf]; omega
      · go_wp2_with fail
        go_ret2
        rw [Hs.out, he]
        exact ⟨some ⟨w1.heap.size, 0, none⟩, n, by simp, (hown.as rfl (fill_end _ (by omega))).ints, x1.tr hx⟩

set_option maxHeartbeats 1000000 in
theorem pCheck_ok (w : World) (q : Problem) (p : PPtr) (A : Option Addr) (c : Nat) (pos : List Int) (h : RProb w q p) (hp : RInts w A pos) :
    Calls Try.prog 13 #[probV q p, .slice A pos.length c] w fun e w' => e = .returned (.int .i64 (checkE q pos)) ∧ Ext w w' := by
  have x0 := (Ext.rfl' w).al (probO q p)
  have hpl := hp.len
  cases hv : validB q
  · have he : (validE q != 0) = true := by simp [validE, hv]
    have hr : validE q = checkE q pos := by simp [checkE, validE, hv]
    have Hr := hid hr
    clear hv hr
    go_enter Try.func13, Try.ntmps13
    go_wp2_with (go_at_call 25; refine (pvalid_ok _ q p (h.to x0)).mono ?_; rintro e w1 ⟨rfl, hb1⟩; obtain ⟨f0, f1, f2, f3, f4⟩ := probBox hb1 rfl)
    go_ret
    exact ⟨ret_int Hr.out, x0.tr hb1⟩
  · have he : validE q = 0 := by simp [validE, hv]
    have hd := valid_bd hv
    have hpw := pow_bd q.symbols (by omega) (by omega)
    have Hv := hid hv
    clear hv
    by_cases hlen : (pos.length : Int) = q.cells
    · have hl : ((pos.length : Int) != q.cells) = false := by simpa using hlen
      have Hlen := hid hlen; clear hlen
      go_enter Try.func13, Try.ntmps13
      go_wp2_with (go_at_call 25; refine (pvalid_ok _ q p (h.to x0)).mono ?_; rintro e w1 ⟨rfl, hb1⟩; obtain ⟨f0, f1, f2, f3, f4⟩ := probBox hb1 rfl)
      go_loop [7, 20] (fun _ i => ∃ k : Nat, k ≤ pos.length ∧ i = .int .i64 k ∧ Hid (inB 0 (fullS q) (pos.take k) = true)) (fun _ i => pos.length - (intOf i).toNat)
      case atStart => exact ⟨0, Nat.zero_le _, rfl, rfl⟩
      case round =>
        obtain ⟨k, hk, rfl, hno⟩ := hrel
        by_cases hlt : k < pos.length
        · obtain ⟨ad, rfl, _, hc, _⟩ := (hp.to (x0.tr hb1)).at_ k hlt
          go_wp2_with fail
          all_goals first
            | (go_ret
               exact ⟨ret_int (checkE_bad Hv.out (okPos_bad hlt (by omega))).symm, x0.tr hb1⟩)
            | (go_round
               case rel => exact ⟨k + 1, by omega, by go_num, inB_on hlt hno (by omega)⟩
               case measure => simp [intOf]; omega)
        · go_wp2_with fail
          go_ret
          exact ⟨ret_int (checkE_good Hv.out (okPos_good Hlen.out (all_end hno hlt))).symm, x0.tr hb1⟩
    · have hl : ((pos.length : Int) != q.cells) = true := by simpa using hlen
      go_enter Try.func13, Try.ntmps13
      go_wp2_with (go_at_call 25; refine (pvalid_ok _ q p (h.to x0)).mono ?_; rintro e w1 ⟨rfl, hb1⟩; obtain ⟨f0, f1, f2, f3, f4⟩ := probBox hb1 rfl)
      go_ret
      exact ⟨ret_int (checkE_bad Hv.out (by simp [okPos, hlen])).symm, x0.tr hb1⟩
end Go.Proofs.Ytjinbjkbchnhpaa
