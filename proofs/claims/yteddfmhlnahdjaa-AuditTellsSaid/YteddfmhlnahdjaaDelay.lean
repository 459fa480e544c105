/- The walks of num.Clamp, delay.Wait, delay.Due and of their references. For all ints. -/
import Derived.Test.YteddfmhlnahdjaaIndex
import Derived.Lib.MinMax
namespace Go.Proofs.Yteddfmhlnahdjaa
open Go Go.RowKit

def clamp (x lo hi : Int) : Int := if x < lo then lo else if hi < x then hi else x
def sameEnd (v : Value) (w : World) (e : Ending) (w' : World) : Prop := e = .returned v ∧ w = w'
theorem clamp_calls (x lo hi : Int) (w : World) : Calls Try.prog 27 #[.int .i64 x, .int .i64 lo, .int .i64 hi] w (sameEnd (.int .i64 (clamp x lo hi)) w) := by
  by_cases h1 : x < lo
  · have hd : decide (x < lo) = true := decide_eq_true h1
    have hr : clamp x lo hi = lo := by simp [clamp, h1]
    have HR := Lib.hid hr
    clear h1 hr
    go_enter Try.func27, Try.ntmps27
    go_wp2
    go_ret
    exact ⟨by rw [HR.out]; rfl, rfl⟩
  · have hd : decide (x < lo) = false := decide_eq_false h1
    by_cases h2 : hi < x
    · have hd2 : decide (hi < x) = true := decide_eq_true h2
      have hr : clamp x lo hi = hi := by simp [clamp, h1, h2]
      have HR := Lib.hid hr
      clear h1 h2 hr
      go_enter Try.func27, Try.ntmps27
      go_wp2
      go_ret
      exact ⟨by rw [HR.out]; rfl, rfl⟩
    · have hd2 : decide (hi < x) = false := decide_eq_false h2
      have hr : clamp x lo hi = x := by simp [clamp, h1, h2]
      have HR := Lib.hid hr
      clear h1 h2 hr
      go_enter Try.func27, Try.ntmps27
      go_wp2
      go_ret
      exact ⟨by rw [HR.out]; rfl, rfl⟩
theorem near_calls (x lo hi : Int) (w : World) : Calls Try.prog 21 #[.int .i64 x, .int .i64 lo, .int .i64 hi] w (sameEnd (.int .i64 (clamp x lo hi)) w) := by
  by_cases h1 : x < lo
  · have hd : decide (x < lo) = true := decide_eq_true h1
    have hr : clamp x lo hi = lo := by simp [clamp, h1]
    have HR := Lib.hid hr
    clear h1 hr
    go_enter Try.func21, Try.ntmps21
    go_wp2
    go_ret
    exact ⟨by rw [HR.out]; rfl, rfl⟩
  · have hd : decide (x < lo) = false := decide_eq_false h1
    by_cases h2 : hi < x
    · have hd2 : decide (hi < x) = true := decide_eq_true h2
      have hr : clamp x lo hi = hi := by simp [clamp, h1, h2]
      have HR := Lib.hid hr
      clear h1 h2 hr
      go_enter Try.func21, Try.ntmps21
      go_wp2
      go_ret
      exact ⟨by rw [HR.out]; rfl, rfl⟩
    · have hd2 : decide (hi < x) = false := decide_eq_false h2
      have hr : clamp x lo hi = x := by simp [clamp, h1, h2]
      have HR := Lib.hid hr
      clear h1 h2 hr
      go_enter Try.func21, Try.ntmps21
      go_wp2
      go_ret
      exact ⟨by rw [HR.out]; rfl, rfl⟩

theorem clamp_range (x lo hi : Int) (h : lo ≤ hi) : lo ≤ clamp x lo hi ∧ clamp x lo hi ≤ hi := by unfold clamp; split <;> (try split) <;> omega
/-- the wait behind r more roundings -/
def grow (m : Int) : Nat → Int → Int
  | 0, x => x
  | r + 1, x => grow m r (min (2 * x) m)
def waitP (base most n : Int) : Int := if n < 1 then 0 else grow (clamp most 1 64) (min n 64 - 1).toNat (min (clamp base 1 64) (clamp most 1 64))
def WaitInv (base most n : Int) (r : Nat) (x : Int) : Prop := waitP base most n = grow (clamp most 1 64) r x ∧ 1 ≤ x ∧ x ≤ 64

theorem wait_calls (base most n : Int) (w : World) : Calls Try.prog 28 #[.int .i64 base, .int .i64 most, .int .i64 n] w (sameEnd (.int .i64 (waitP base most n)) w) := by
  obtain ⟨m1, m2⟩ := clamp_range most 1 64 (by omega)
  obtain ⟨b1, b2⟩ := clamp_range base 1 64 (by omega)
  by_cases hn : n < 1
  · have hd : decide (n < 1) = true := decide_eq_true hn
    have hr : waitP base most n = 0 := by simp [waitP, hn]
    have HR := Lib.hid hr
    clear hr hn
    go_enter Try.func28, Try.ntmps28
    go_wp2_with (first
      | (go_at_call 27; refine (clamp_calls _ _ _ _).mono ?_; rintro e w' ⟨rfl, rfl⟩))
    go_ret
    exact ⟨by rw [HR.out]; rfl, rfl⟩
  · have hd : decide (n < 1) = false := decide_eq_false hn
    have hr : waitP base most n = grow (clamp most 1 64) (min n 64 - 1).toNat (min (clamp base 1 64) (clamp most 1 64)) := by simp [waitP, hn]
    have HR := Lib.hid hr
    have hn1 : 1 ≤ n := by omega
    clear hr hn
    go_enter Try.func28, Try.ntmps28
    go_wp2_with (first
      | (go_at_call 27; refine (clamp_calls _ _ _ _).mono ?_; rintro e w' ⟨rfl, rfl⟩))
    go_loop [7, 19] (fun x i => ∃ (k : Nat) (z : Int), (k : Int) ≤ min n 64 - 1 ∧ i = .int .i64 k ∧ x = .int .i64 z ∧ Hid (WaitInv base most n ((min n 64 - 1).toNat - k) z)) (fun _ i => (min n 64 - 1).toNat - (intOf i).toNat)
    case atStart => exact ⟨0, _, by omega, rfl, rfl, HR.out, by omega, by omega⟩
    case round =>
      obtain ⟨k, z, hk, rfl, rfl, hinv⟩ := hrel
      obtain ⟨h1, h2, h3⟩ := hinv
      have H1 := Lib.hid h1
      clear h1
      by_cases hlt : (k : Int) < min n 64 - 1
      · have hdl : decide ((k : Int) < min n 64 - 1) = true := decide_eq_true hlt
        have hnew : waitP base most n = grow (clamp most 1 64) ((min n 64 - 1).toNat - (k + 1)) (min (2 * z) (clamp most 1 64)) := by
          rw [H1.out, show (min n 64 - 1).toNat - k = ((min n 64 - 1).toNat - (k + 1)) + 1 by omega, grow]
        have HN := Lib.hid hnew
        clear hnew
        go_wp2
        go_round
        case rel => exact ⟨k + 1, _, by omega, by go_num, rfl, HN.out, by omega, by omega⟩
        case measure => simp [intOf]; omega
      · have hdl : decide ((k : Int) < min n 64 - 1) = false := decide_eq_false hlt
        have hnew : waitP base most n = z := by
          rw [H1.out, show (min n 64 - 1).toNat - k = 0 by omega, grow]
        have HN := Lib.hid hnew
        clear hnew
        go_wp2
        go_ret
        exact ⟨by rw [HN.out]; rfl, rfl⟩

theorem grow_range (m : Int) (h1 : 1 ≤ m) (h2 : m ≤ 64) : ∀ (r : Nat) (x : Int), 1 ≤ x → x ≤ 64 → 1 ≤ grow m r x ∧ grow m r x ≤ 64
  | 0, x, a, b => ⟨a, b⟩
  | r + 1, x, a, b => grow_range m h1 h2 r _ (by omega) (by omega)
theorem waitP_range (base most n : Int) : 0 ≤ waitP base most n ∧ waitP base most n ≤ 64 := by
  obtain ⟨m1, m2⟩ := clamp_range most 1 64 (by omega)
  obtain ⟨b1, b2⟩ := clamp_range base 1 64 (by omega)
  unfold waitP
  split
  · omega
  · have := grow_range (clamp most 1 64) m1 m2 (min n 64 - 1).toNat (min (clamp base 1 64) (clamp most 1 64)) (by omega) (by omega)
    omega
def dueP (base most n last : Int) : Int := clamp last 0 1073741824 + waitP base most n
theorem due_calls (base most n last : Int) (w : World) : Calls Try.prog 24 #[.int .i64 base, .int .i64 most, .int .i64 n, .int .i64 last] w (sameEnd (.int .i64 (dueP base most n last)) w) := by
  obtain ⟨m1, m2⟩ := clamp_range last 0 1073741824 (by omega)
  obtain ⟨b1, b2⟩ := waitP_range base most n
  go_enter Try.func24, Try.ntmps24
  go_wp2_with (first
    | (go_at_call 27; refine (clamp_calls _ _ _ _).mono ?_; rintro e w' ⟨rfl, rfl⟩)
    | (go_at_call 28; refine (wait_calls _ _ _ _).mono ?_; rintro e w' ⟨rfl, rfl⟩))
  go_ret
  exact ⟨rfl, rfl⟩

/-! ### the reference's -/
theorem grow_fix (m : Int) (h : 1 ≤ m) : ∀ r, grow m r m = m
  | 0 => rfl
  | r + 1 => by rw [grow, show min (2 * m) m = m by omega, grow_fix m h r]
def WaitInvR (base most n : Int) (r : Nat) (x : Int) : Prop := waitP base most n = grow (clamp most 1 64) r (min x (clamp most 1 64)) ∧ 1 ≤ x ∧ x ≤ 128

set_option maxHeartbeats 1000000 in
theorem ref_wait_calls (base most n : Int) (w : World) : Calls Try.prog 22 #[.int .i64 base, .int .i64 most, .int .i64 n] w (sameEnd (.int .i64 (waitP base most n)) w) := by
  obtain ⟨m1, m2⟩ := clamp_range most 1 64 (by omega)
  obtain ⟨b1, b2⟩ := clamp_range base 1 64 (by omega)
  by_cases hn : n < 1
  · have hd : decide (n < 1) = true := decide_eq_true hn
    have hr : waitP base most n = 0 := by simp [waitP, hn]
    have HR := Lib.hid hr
    clear hr hn
    go_enter Try.func22, Try.ntmps22
    go_wp2_with (first
      | (go_at_call 21; refine (near_calls _ _ _ _).mono ?_; rintro e w' ⟨rfl, rfl⟩))
    go_ret
    exact ⟨by rw [HR.out]; rfl, rfl⟩
  · have hd : decide (n < 1) = false := decide_eq_false hn
    have hr : waitP base most n = grow (clamp most 1 64) (min n 64 - 1).toNat (min (clamp base 1 64) (clamp most 1 64)) := by simp [waitP, hn]
    have HR := Lib.hid hr
    have hn1 : 1 ≤ n := by omega
    clear hr hn
    go_enter Try.func22, Try.ntmps22
    go_wp2_with (first
      | (go_at_call 21; refine (near_calls _ _ _ _).mono ?_; rintro e w' ⟨rfl, rfl⟩))
    go_loop [7, 8] (fun x i => ∃ (k : Nat) (z : Int), (k : Int) ≤ min n 64 - 1 ∧ i = .int .i64 ((k : Int) + 1) ∧ x = .int .i64 z ∧ Hid (WaitInvR base most n ((min n 64 - 1).toNat - k) z)) (fun _ i => (min n 64).toNat - (intOf i).toNat)
    case atStart => exact ⟨0, _, by omega, rfl, rfl, by simpa using HR.out, by omega, by omega⟩
    case round =>
      obtain ⟨k, z, hk, rfl, rfl, hinv⟩ := hrel
      obtain ⟨h1, h2, h3⟩ := hinv
      have H1 := Lib.hid h1
      clear h1
      have hend : z ≥ clamp most 1 64 ∨ (k : Int) = min n 64 - 1 → waitP base most n = min z (clamp most 1 64) := by
        rintro (h | h)
        · rw [H1.out, show min z (clamp most 1 64) = clamp most 1 64 by omega, grow_fix _ m1]
        · rw [H1.out, show (min n 64 - 1).toNat - k = 0 by omega, grow]
      have HE := Lib.hid hend
      clear hend
      by_cases h5 : (k : Int) + 1 < n
      · have d5 : decide ((k : Int) + 1 < n) = true := decide_eq_true h5
        by_cases h6 : (k : Int) + 1 < 64
        · have d6 : decide ((k : Int) + 1 < 64) = true := decide_eq_true h6
          by_cases h7 : z < clamp most 1 64
          · have d7 : decide (z < clamp most 1 64) = true := decide_eq_true h7
            have hnew : waitP base most n = grow (clamp most 1 64) ((min n 64 - 1).toNat - (k + 1)) (min (z * 2) (clamp most 1 64)) := by
              rw [H1.out, show (min n 64 - 1).toNat - k = ((min n 64 - 1).toNat - (k + 1)) + 1 by omega, grow, show 2 * min z (clamp most 1 64) = z * 2 by omega]
            have HN := Lib.hid hnew
            clear hnew
            go_wp2
            go_round
            case rel => exact ⟨k + 1, _, by omega, by go_num, rfl, HN.out, by omega, by omega⟩
            case measure => simp [intOf]; omega
          · have d7 : decide (z < clamp most 1 64) = false := decide_eq_false h7
            have hnew := HE.out (.inl (by omega))
            have HN := Lib.hid hnew
            clear hnew
            by_cases h8 : clamp most 1 64 < z
            · have d8 : decide (clamp most 1 64 < z) = true := decide_eq_true h8
              go_wp2
              go_ret
              exact ⟨by rw [HN.out, show min z (clamp most 1 64) = clamp most 1 64 by omega]; rfl, rfl⟩
            · have d8 : decide (clamp most 1 64 < z) = false := decide_eq_false h8
              go_wp2
              go_ret
              exact ⟨by rw [HN.out, show min z (clamp most 1 64) = z by omega]; rfl, rfl⟩
        · have d6 : decide ((k : Int) + 1 < 64) = false := decide_eq_false h6
          have hnew := HE.out (.inr (by omega))
          have HN := Lib.hid hnew
          clear hnew
          by_cases h8 : clamp most 1 64 < z
          · have d8 : decide (clamp most 1 64 < z) = true := decide_eq_true h8
            go_wp2
            go_ret
            exact ⟨by rw [HN.out, show min z (clamp most 1 64) = clamp most 1 64 by omega]; rfl, rfl⟩
          · have d8 : decide (clamp most 1 64 < z) = false := decide_eq_false h8
            go_wp2
            go_ret
            exact ⟨by rw [HN.out, show min z (clamp most 1 64) = z by omega]; rfl, rfl⟩
      · have d5 : decide ((k : Int) + 1 < n) = false := decide_eq_false h5
        have hnew := HE.out (.inr (by omega))
        have HN := Lib.hid hnew
        clear hnew
        by_cases h8 : clamp most 1 64 < z
        · have d8 : decide (clamp most 1 64 < z) = true := decide_eq_true h8
          go_wp2
          go_ret
          exact ⟨by rw [HN.out, show min z (clamp most 1 64) = clamp most 1 64 by omega]; rfl, rfl⟩
        · have d8 : decide (clamp most 1 64 < z) = false := decide_eq_false h8
          go_wp2
          go_ret
          exact ⟨by rw [HN.out, show min z (clamp most 1 64) = z by omega]; rfl, rfl⟩

theorem ref_due_calls (base most n last : Int) (w : World) : Calls Try.prog 13 #[.int .i64 base, .int .i64 most, .int .i64 n, .int .i64 last] w (sameEnd (.int .i64 (dueP base most n last)) w) := by
  obtain ⟨m1, m2⟩ := clamp_range last 0 1073741824 (by omega)
  obtain ⟨b1, b2⟩ := waitP_range base most n
  go_enter Try.func13, Try.ntmps13
  go_wp2_with (first
    | (go_at_call 21; refine (near_calls _ _ _ _).mono ?_; rintro e w' ⟨rfl, rfl⟩)
    | (go_at_call 22; refine (ref_wait_calls _ _ _ _).mono ?_; rintro e w' ⟨rfl, rfl⟩))
  go_ret
  exact ⟨rfl, rfl⟩
end Go.Proofs.Yteddfmhlnahdjaa
