/- Contracts: small functions on positions, in both texts. -/
import Derived.Test.YtjinbjkbchnhpaaCj
namespace Go.Proofs.Ytjinbjkbchnhpaa
open Go.RowKit

theorem Ext.drw {a b : World} {n : Nat} (h : b = a.drewN n) : Ext a b := by subst h; exact (Ext.rfl' _).drN _

set_option maxHeartbeats 1000000 in
theorem rCheck_ok (w : World) (q : Problem) (p : PPtr) (A : Option Addr) (c : Nat) (pos : List Int) (h : RProb w q p) (hp : RInts w A pos) :
    Calls Try.prog 14 #[probV q p, .slice A pos.length c] w fun e w' => e = .returned (.int .i64 (checkE q pos)) ∧ Ext w w' := by
  have x0 := (Ext.rfl' w).al (probO q p)
  have hpl := hp.len
  cases hv : validB q
  · have he : (validE q != 0) = true := by simp [validE, hv]
    have hr : validE q = checkE q pos := by simp [checkE, validE, hv]
    have Hr := hid hr
    clear hv hr
    go_enter Try.func14, Try.ntmps14
    go_wp2_with (go_at_call 26; refine (valid19_ok _ q p (h.to x0)).mono ?_; rintro e w1 ⟨rfl, hb1⟩; obtain ⟨f0, f1, f2, f3, f4⟩ := probBox hb1 rfl)
    go_ret
    exact ⟨ret_int Hr.out, x0.tr hb1⟩
  · have he : validE q = 0 := by simp [validE, hv]
    have hd := valid_bd hv
    have hpw := pow_bd q.symbols (by omega) (by omega)
    have Hv := hid hv
    clear hv
    by_cases hlen : (pos.length : Int) = q.cells
    · have hl : ((pos.length : Int) != q.cells) = false := by simpa using hlen
      have Hlen := hid hlen; clear hlen
      go_enter Try.func14, Try.ntmps14
      go_wp2_with (go_at_call 26; refine (valid19_ok _ q p (h.to x0)).mono ?_; rintro e w1 ⟨rfl, hb1⟩; obtain ⟨f0, f1, f2, f3, f4⟩ := probBox hb1 rfl)
      clear f0 f1 f2 f3 f4
      go_loopw [6] (fun i wr => ∃ k : Nat, k ≤ pos.length ∧ i = .int .i64 k ∧ Hid (inB 0 (fullS q) (pos.take k) = true) ∧ Ext w1 wr) (fun i _ => pos.length - (intOf i).toNat)
      case atStart => exact ⟨0, Nat.zero_le _, rfl, rfl, Ext.rfl' _⟩
      case round =>
        obtain ⟨k, hk, rfl, hno, hx⟩ := hrel
        by_cases hlt : k < pos.length
        · obtain ⟨ad, rfl, _, hc, _⟩ := (hp.to (x0.tr (hb1.tr hx))).at_ k hlt
          obtain ⟨f0, f1, f2, f3, f4⟩ := probBox (hb1.tr hx) rfl
          by_cases hneg : pos[k] < 0
          · go_wp2_with fail
            go_quiet (fail)
            go_wp2_with fail
            go_ret
            exact ⟨ret_int (checkE_bad Hv.out (okPos_bad hlt (by omega))).symm, (x0.tr (hb1.tr hx)).drN _⟩
          · have hneg' : decide (pos[k] < 0) = false := by simpa using hneg
            have hM : IntKind.i64.wrap (2 ^ q.symbols.toNat) = 2 ^ q.symbols.toNat := IntWalk.i64_in _ ⟨by omega, by omega⟩
            go_wp2_with fail
            go_quiet (fail)
            clear hM
            go_wp2_with fail
            all_goals first
              | (go_ret
                 exact ⟨ret_int (checkE_bad Hv.out (okPos_bad hlt (by omega))).symm, (x0.tr (hb1.tr hx)).drN _⟩)
              | (go_roundw
                 case rel => exact ⟨k + 1, by omega, by go_num, inB_on hlt hno (by omega), hx.drN _⟩
                 case measure => simp [intOf]; omega)
        · go_wp2_with fail
          go_ret
          exact ⟨ret_int (checkE_good Hv.out (okPos_good Hlen.out (all_end hno hlt))).symm, x0.tr (hb1.tr hx)⟩
    · have hl : ((pos.length : Int) != q.cells) = true := by simpa using hlen
      go_enter Try.func14, Try.ntmps14
      go_wp2_with (go_at_call 26; refine (valid19_ok _ q p (h.to x0)).mono ?_; rintro e w1 ⟨rfl, hb1⟩; obtain ⟨f0, f1, f2, f3, f4⟩ := probBox hb1 rfl)
      go_ret
      exact ⟨ret_int (checkE_bad Hv.out (by simp [okPos, hlen])).symm, x0.tr hb1⟩

/-- The bit of a symbol. -/
def bitI (n : Int) : Int := if 0 ≤ n ∧ n < 16 then 2 ^ n.toNat else 0
set_option maxHeartbeats 400000 in
theorem bit_ok (w : World) (n : Int) : Calls Try.prog 30 #[.int .i64 n] w fun e w' => e = .returned (.int .i64 (bitI n)) ∧ w = w' := by
  by_cases h0 : 0 ≤ n
  · by_cases h1 : n < 16
    · have hp := pow_bd n h0 (by omega)
      go_enter Try.func30, Try.ntmps30
      go_wp2_with fail
      go_ret
      exact ⟨ret_int (by simp only [bitI]; rw [if_pos ⟨h0, h1⟩]), rfl⟩
    · go_enter Try.func30, Try.ntmps30
      go_wp2_with fail
      go_ret
      exact ⟨ret_int (by simp only [bitI]; rw [if_neg (by omega)]), rfl⟩
  · go_enter Try.func30, Try.ntmps30
    go_wp2_with fail
    go_ret
    exact ⟨ret_int (by simp only [bitI]; rw [if_neg (by omega)]), rfl⟩

set_option maxHeartbeats 400000 in
theorem without_ok (w : World) (s n : Int) (h0 : 0 ≤ n) (h : n < 16) : Calls Try.prog 28 #[.int .u64 s, .int .i64 n] w fun e w' => e = .returned (.int .u64 (bits .andNot .u64 s (2 ^ n.toNat))) ∧ w = w' := by
  have hp := pow_bd n h0 (by omega)
  go_enter Try.func28, Try.ntmps28
  go_wp2_with fail
  go_ret
  exact ⟨rfl, rfl⟩
set_option maxHeartbeats 400000 in
theorem only_ok (w : World) (s n : Int) (h0 : 0 ≤ n) (h : n < 16) : Calls Try.prog 31 #[.int .u64 s, .int .i64 n] w fun e w' => e = .returned (.int .u64 (bits .and .u64 s (2 ^ n.toNat))) ∧ w = w' := by
  have hp := pow_bd n h0 (by omega)
  go_enter Try.func31, Try.ntmps31
  go_wp2_with fail
  go_ret
  exact ⟨rfl, rfl⟩

/-- A position is dead. -/
def deadB (l : List Int) : Bool := l.any (· == 0)
set_option maxHeartbeats 400000 in
theorem rDead_ok (w : World) (A : Option Addr) (c : Nat) (l : List Int) (h : RInts w A l) :
    Calls Try.prog 51 #[.slice A l.length c] w fun e w' => e = .returned (.bool (deadB l)) ∧ w = w' := by
  have hl := h.len
  go_enter Try.func51, Try.ntmps51
  go_wp2_with fail
  go_loop [3] (fun i => ∃ k : Nat, k ≤ l.length ∧ i = .int .i64 k ∧ Hid ((l.take k).any (· == 0) = false)) (fun i => l.length - (intOf i).toNat)
  case atStart => exact ⟨0, Nat.zero_le _, rfl, rfl⟩
  case round =>
    obtain ⟨k, hk, rfl, hno⟩ := hrel
    by_cases hlt : k < l.length
    · obtain ⟨ad, rfl, _, hc, _⟩ := h.at_ k hlt
      go_wp2_with fail
      · have hz : (l[k] == 0) = true := by assumption
        go_ret
        exact ⟨ret_bool (any_of_at k hlt hz).symm, rfl⟩
      · have hz : (l[k] == 0) = false := by assumption
        go_round
        case rel => exact ⟨k + 1, by omega, by go_num, any_on hlt hno hz⟩
        case measure => simp [intOf]; omega
    · go_wp2_with fail
      go_ret
      exact ⟨ret_bool (any_end hno hlt).symm, rfl⟩
set_option maxHeartbeats 400000 in
theorem pDead_ok (w : World) (A : Option Addr) (c : Nat) (l : List Int) (h : RInts w A l) :
    Calls Try.prog 22 #[.slice A l.length c] w fun e w' => e = .returned (.bool (deadB l)) ∧ w = w' := by
  go_enter Try.func22, Try.ntmps22
  go_wp2_with (go_at_call 33; refine (dead_ok _ _ _ _ h).mono ?_; rintro e w1 ⟨rfl, rfl⟩)
  go_ret
  exact ⟨rfl, rfl⟩

/-- The dead position in the place of one that is dead. -/
def normL (l : List Int) : List Int := if deadB l then List.replicate l.length 0 else l
theorem normL_len (l : List Int) : (normL l).length = l.length := by unfold normL; split <;> simp
theorem normL_dead {l : List Int} (h : deadB l = true) : normL l = List.replicate l.length 0 := by simp [normL, h]
theorem normL_live {l : List Int} (h : deadB l = false) : normL l = l := by simp [normL, h]

set_option maxHeartbeats 400000 in
theorem normal_ok (w : World) (A : Option Addr) (c : Nat) (l : List Int) (h : RInts w A l) :
    Calls Try.prog 32 #[.slice A l.length c] w fun e w' => ∃ B d, e = .returned (.slice B l.length d) ∧ RInts w' B (normL l) ∧ Ext w w' := by
  have hl := h.len
  cases hd : deadB l
  · have Hn := hid (normL_live hd)
    go_enter Try.func32, Try.ntmps32
    go_wp2_with (go_at_call 33; refine (dead_ok _ _ _ _ h).mono ?_; rintro e w1 ⟨rfl, rfl⟩; rw [show l.any (· == 0) = false from hd])
    go_ret
    rw [Hn.out]
    exact ⟨A, c, rfl, h, Ext.rfl' _⟩
  · have Hn := hid (normL_dead hd)
    go_enter Try.func32, Try.ntmps32
    go_wp2_with (first
      | (go_at_call 33; refine (dead_ok _ _ _ _ h).mono ?_; rintro e w1 ⟨rfl, rfl⟩; rw [show l.any (· == 0) = true from hd])
      | (at_make; refine make_own rfl _ _ rfl l.length _ _ rfl rfl (by omega) (by omega) (by omega) ?_; intro w2 hown2 hx2 _))
    go_ret
    rw [Hn.out]
    exact ⟨_, _, rfl, hown2.ints, hx2⟩
set_option maxHeartbeats 400000 in
theorem rNormal_ok (w : World) (A : Option Addr) (c : Nat) (l : List Int) (h : RInts w A l) :
    Calls Try.prog 43 #[.slice A l.length c] w fun e w' => ∃ B d, e = .returned (.slice B l.length d) ∧ RInts w' B (normL l) ∧ Ext w w' := by
  have hl := h.len
  cases hd : deadB l
  · have Hn := hid (normL_live hd)
    go_enter Try.func43, Try.ntmps43
    go_wp2_with (go_at_call 51; refine (rDead_ok _ _ _ _ h).mono ?_; rintro e w1 ⟨rfl, rfl⟩)
    go_ret
    rw [Hn.out]
    exact ⟨A, c, rfl, h, Ext.rfl' _⟩
  · have Hn := hid (normL_dead hd)
    go_enter Try.func43, Try.ntmps43
    go_wp2_with (first
      | (go_at_call 51; refine (rDead_ok _ _ _ _ h).mono ?_; rintro e w1 ⟨rfl, rfl⟩)
      | (at_make; refine make_own rfl _ _ rfl l.length _ _ rfl rfl (by omega) (by omega) (by omega) ?_; intro w2 hown2 hx2 _))
    go_ret
    rw [Hn.out]
    exact ⟨_, _, rfl, hown2.ints, hx2⟩

/-- A position permits nothing that another one does not. -/
def withinB (a b : List Int) : Bool := decide (a.length = b.length) && (List.range a.length).all fun k => bits .andNot .i64 (num a k) (num b k) == 0
set_option maxHeartbeats 400000 in
theorem pWithin_ok (w : World) (A B : Option Addr) (c d : Nat) (a b : List Int) (h : RInts w A a) (g : RInts w B b) :
    Calls Try.prog 21 #[.slice A a.length c, .slice B b.length d] w fun e w' => e = .returned (.bool (withinB a b)) ∧ Ext w w' := by
  have hl := h.len
  have gl := g.len
  by_cases hne : a.length = b.length
  · have hb : ((a.length : Int) != (b.length : Int)) = false := by simp [hne]
    have hlen := hid hne; clear hne
    go_enter Try.func21, Try.ntmps21
    go_wp2_with fail
    go_loopw [5, 13] (fun _ i wr => ∃ k n : Nat, k ≤ a.length ∧ i = .int .i64 k ∧ Hid ((List.range k).all (fun k => bits .andNot .i64 (num a k) (num b k) == 0) = true) ∧ wr = w.drewN n) (fun _ i _ => a.length - (intOf i).toNat)
    case atStart => exact ⟨0, 0, Nat.zero_le _, rfl, rfl, rfl⟩
    case round =>
      obtain ⟨k, n, hk, rfl, hno, rfl⟩ := hrel
      by_cases hlt : k < a.length
      · have hlt2 : k < b.length := by have := hlen.out; omega
        obtain ⟨ad, rfl, _, hc, _⟩ := h.num (by omega)
        obtain ⟨bd, rfl, _, gc, _⟩ := g.num (by omega)
        go_wp2_with fail
        go_quiet (fail)
        go_wp2_with fail
        · have hz : (bits .andNot .i64 (num a k) (num b k) != 0) = true := by assumption
          go_ret
          exact ⟨ret_bool (by
            have : (List.range a.length).all (fun k => bits .andNot .i64 (num a k) (num b k) == 0) = false := rall_bad hlt (by simpa using hz)
            simp [withinB, this]), ((Ext.rfl' _).drN _).drN _⟩
        · have hz : (bits .andNot .i64 (num a k) (num b k) != 0) = false := by assumption
          go_roundw
          case rel => exact ⟨k + 1, _, by omega, by go_num, rall_on hno (by simpa using hz), by first | rfl | exact World.drewN_drewN _ _ _⟩
          case measure => simp [intOf]; omega
      · go_wp2_with fail
        go_ret
        exact ⟨ret_bool (by
          rw [withinB, rall_end hno hk hlt]; simpa using hlen.out), (Ext.rfl' _).drN _⟩
  · have hb : ((a.length : Int) != (b.length : Int)) = true := by simp; omega
    go_enter Try.func21, Try.ntmps21
    go_wp2_with fail
    go_ret
    exact ⟨ret_bool (by simp [withinB, hne]), Ext.rfl' _⟩
end Go.Proofs.Ytjinbjkbchnhpaa
