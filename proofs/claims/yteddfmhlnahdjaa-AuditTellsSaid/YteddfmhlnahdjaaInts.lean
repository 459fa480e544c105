/- few, countermandplain.Ints: the walks. -/
import Derived.Test.YteddfmhlnahdjaaSound
import Derived.Test.YteddfmhlnahdjaaDelay
import Derived.Test.YteddfmhlnahdjaaSent
namespace Go.Proofs.Yteddfmhlnahdjaa
open Go Go.RowKit

theorem few_calls (A : Option Addr) (n c : Nat) (w : World) (hA : 60 < n → A.isSome = true) (hn : n ≤ c) (hl : n ≤ 9223372036854775807) :
    Calls Try.prog 6 #[.slice A n c] w (sameEnd (.slice A (min n 60) c) w) := by
  by_cases h : 60 < n
  · obtain ⟨ad, rfl⟩ : ∃ ad, A = some ad := by
      have := hA h
      cases A with
      | none => cases this
      | some ad => exact ⟨ad, rfl⟩
    have h1 : (60 : Int) < (n : Int) := by omega
    have h2 : (60 : Int) ≤ (c : Int) := by omega
    have h3 : ¬ c = 0 := by omega
    have h4 : min n 60 = 60 := by omega
    rw [h4]
    go_enter Try.func6, Try.ntmps6
    go_wp2
    go_ret
    exact ⟨rfl, rfl⟩
  · have h1 : ¬ (60 : Int) < (n : Int) := by omega
    have h4 : min n 60 = n := by omega
    rw [h4]
    go_enter Try.func6, Try.ntmps6
    go_wp2
    go_ret
    exact ⟨rfl, rfl⟩

def cInt (x : Int) : List Value := [.int .i64 x]
theorem own_ints {w : World} {base n c : Nat} {A : Option Addr} {ts : List Int} (h : w.ownsRow base 3 1 (.slice A n c) n (ints ts)) (hl : ts.length ≤ 9223372036854775807) : RowAt cInt 1 w A ts := by
  refine ⟨hl, fun i x hx => ?_⟩
  have hi : i < ts.length := (List.getElem?_eq_some_iff.1 hx).1
  have hlen : (ints ts).length = ts.length := by simp [ints]
  rcases h.2 with ⟨_, h0⟩ | ⟨g, cap, cur, hv, _⟩
  · have := h.1
    omega
  · cases hv
    refine ⟨_, rfl, fun j v hv => ?_⟩
    have hc := h.cells (g := g) rfl i (.int .i64 x) (by simp [ints, hx])
    cases j with
    | zero => cases hv; simpa [Addr.add] using hc
    | succ j => simp [cInt] at hv

theorem add_none (a : Addr) : a.add 0 = a := by simp [Addr.add]
def IntsInv (a b : List Int) (w : World) (k : Nat) (wr : World) : Prop := (∀ j, j < k → a[j]? = b[j]?) ∧ Below w.heap.size w wr

theorem ints_calls (A B : Option Addr) (c d : Nat) (a b : List Int) (w : World) (ha : RowAt cInt 1 w A a) (hb : RowAt cInt 1 w B b) :
    Calls Try.prog 14 #[.slice A a.length c, .slice B b.length d] w (cellsEnd (.bool (decide (a = b))) w) := by
  have HA := Lib.hid ha
  have HB := Lib.hid hb
  have la : a.length ≤ 9223372036854775807 := ha.1
  have lb : b.length ≤ 9223372036854775807 := hb.1
  clear ha hb
  by_cases hlen : a.length = b.length
  · have hI : ((a.length : Int) = (b.length : Int)) := by omega
    have HLEN := Lib.hid hlen
    clear hlen
    go_enter Try.func14, Try.ntmps14
    go_wp2
    go_loopw [5] (fun i wr => ∃ k : Nat, k ≤ a.length ∧ i = .int .i64 k ∧ Hid (IntsInv a b w k wr)) (fun i _ => a.length - (intOf i).toNat)
    case atStart => exact ⟨0, Nat.zero_le _, rfl, fun j h => by omega, Below.refl _ _⟩
    case round =>
      obtain ⟨k, hk, rfl, hinv⟩ := hrel
      obtain ⟨q1, q2⟩ := hinv
      by_cases hlt : k < a.length
      · obtain ⟨x, hx⟩ : ∃ x, a[k]? = some x := ⟨a[k], by simp [hlt]⟩
        have hlt2 : k < b.length := by have := HLEN.out; omega
        obtain ⟨y, hy⟩ : ∃ y, b[k]? = some y := ⟨b[k], by simp [hlt2]⟩
        obtain ⟨ad, rfl, hcell⟩ := HA.out.2 k _ hx
        obtain ⟨bd, rfl, hcell2⟩ := HB.out.2 k _ hy
        have e1 : w.cell? (ad.add k) = some (.int .i64 x) := by have := hcell 0 _ rfl; rwa [Nat.mul_one, add_none] at this
        have e2 : w.cell? (bd.add k) = some (.int .i64 y) := by have := hcell2 0 _ rfl; rwa [Nat.mul_one, add_none] at this
        have f1 := (q2.cell (p := ad.add k) (World.block_lt_of_cell? w _ e1)).trans e1
        have f2 := (q2.cell (p := bd.add k) (World.block_lt_of_cell? w _ e2)).trans e2
        have k0 : (0 : Int) ≤ (k : Int) := Int.natCast_nonneg _
        have k1 : (k : Int) < (a.length : Int) := by omega
        have k2 : (k : Int) < (b.length : Int) := by omega
        have Q1 := Lib.hid q1
        have Q2 := Lib.hid q2
        have HX := Lib.hid (And.intro hx hy)
        clear q1 q2 hx hy hcell hcell2 e1 e2
        go_wp2
        go_quiet (fail)
        by_cases hxy : x = y
        · have HXY := Lib.hid hxy
          have hD : (!decide (x = y)) = false := by simp [hxy]
          go_wp2
          go_roundw
          case rel => exact ⟨k + 1, by omega, by go_num, fun j hj => by
            by_cases hjk : j = k
            · rw [hjk, HX.out.1, HX.out.2, HXY.out]
            · exact Q1.out j (by omega), below_drewN Q2.out _⟩
          case measure => simp [intOf]; omega
        · have HXY := Lib.hid hxy
          go_wp2
          go_ret
          refine ⟨?_, below_drewN Q2.out _⟩
          have : ¬ a = b := fun h => HXY.out (by have h2 := HX.out.2; rw [← h, HX.out.1] at h2; exact Option.some.inj h2)
          rw [decide_eq_false this]; rfl
      · have hk' : k = a.length := by omega
        have hab : a = b := by
          refine List.ext_getElem? fun j => ?_
          by_cases hj : j < k
          · exact q1 j hj
          · rw [List.getElem?_eq_none (by omega), List.getElem?_eq_none (by have := HLEN.out; omega)]
        have HAB := Lib.hid hab
        have Q2 := Lib.hid q2
        subst hk'
        clear hab q1 q2
        go_wp2
        go_ret
        exact ⟨by rw [decide_eq_true HAB.out]; rfl, Q2.out⟩
  · have hI : ¬ ((a.length : Int) = (b.length : Int)) := by omega
    have hne : ¬ a = b := fun h => hlen (by rw [h])
    have HNE := Lib.hid hne
    clear hlen hne
    go_enter Try.func14, Try.ntmps14
    go_wp2
    go_ret
    exact ⟨by rw [decide_eq_false HNE.out]; rfl, Below.refl _ _⟩
end Go.Proofs.Yteddfmhlnahdjaa
