/- The iterator of audit.keys: it hands over each key once, in the order of the first times; for every loop body that keeps what lay there. -/
import Derived.Test.YteddfmhlnahdjaaOnce
import Derived.Test.YteddfmhlnahdjaaSent
import Derived.RangeFuncWrites
import Derived.RangeFuncLeaves
import Derived.RangeFuncCalls
import Derived.Shelf.Abstract
import Derived.OwnWalkIn
import Derived.TacticsInMore
import Derived.LoopNIn
import Derived.LoopIn
import Derived.RegionIn
namespace Go.Proofs.Yteddfmhlnahdjaa
open Go Go.RowKit Go.Shelf

attribute [local go_sem] Oper.semAt_some

def keysGo (m : List (GKey × Value)) : List GSent → List GKey
  | [] => []
  | x :: r => if has m x.key then keysGo m r else x.key :: keysGo (put m x.key (.bool true)) r
theorem keysGo_len : ∀ (l : List GSent) (m : List (GKey × Value)), (keysGo m l).length ≤ l.length
  | [], _ => by simp [keysGo]
  | x :: r, m => by
    rw [keysGo]
    split
    · exact Nat.le_succ_of_le (keysGo_len r m)
    · simp only [List.length_cons]; exact Nat.succ_le_succ (keysGo_len r _)

/-- what the body of a round keeps -/
def Kp (n0 : Nat) (A B : World) : Prop := KeepsWalks A B ∧ Below n0 A B

def KInv (l : List GSent) (w0 : World) (b : Nat) (J : List GKey → World → Prop) (k : Nat) (wr : World) : Prop :=
  ∃ m pre, World.mapAt wr eKey b m ∧ (∀ p ∈ m, p.2 = .bool true) ∧ Below w0.heap.size w0 wr ∧ J pre wr ∧ keysGo [] l = pre ++ keysGo m (l.drop k) ∧ pre.length ≤ k ∧ b < wr.heap.size

theorem mapAt_walks {κ : Type} {w w' : World} {enc : κ → Value} {b : Nat} {m : List (κ × Value)} (h : World.mapAt w enc b m) (hk : KeepsWalks w w') : World.mapAt w' enc b m := by
  obtain ⟨es, clock, hb, he⟩ := h
  exact ⟨es, clock, hk.same b _ hb rfl, he⟩
theorem mapAt_walk {κ : Type} {w : World} {enc : κ → Value} {b : Nat} {m : List (κ × Value)} (h : World.mapAt w enc b m) : ∃ o : Obj, w.heap[b]? = some o ∧ o.isWalk = true := by
  obtain ⟨es, clock, hb, he⟩ := h
  exact ⟨_, hb, rfl⟩

theorem put_same {m : List (GKey × Value)} (hv : ∀ p ∈ m, p.2 = .bool true) {k : GKey} (h : has m k = true) : put m k (.bool true) = m := by
  induction m with
  | nil => simp [has, look] at h
  | cons p r ih =>
    unfold put
    by_cases hp : p.1 = k
    · rw [if_pos hp, ← hp, ← hv p (by simp)]
    · rw [if_neg hp]
      have : has r k = true := by
        unfold has look at h ⊢
        rw [List.find?_cons, show (p.1 == k) = false by simpa using hp] at h
        exact h
      rw [ih (fun q hq => hv q (by simp [hq])) this]
theorem sentBox {wr w1 : World} {b : Nat} {v0 v1 v2 v3 v4 v5 v6 v7 v8 v9 v10 : Value} (hg : (wr.alloc (.cells #[v0, v1, v2, v3, v4, v5, v6, v7, v8, v9, v10] 40)).grownBy w1 (some b)) (hb : b < wr.heap.size) :
    w1.cell? ⟨wr.heap.size, 2, none⟩ = some v2 ∧ w1.cell? ⟨wr.heap.size, 3, none⟩ = some v3 ∧ w1.cell? ⟨wr.heap.size, 4, none⟩ = some v4 ∧ w1.cell? ⟨wr.heap.size, 5, none⟩ = some v5 := by
  have h : w1.heap[wr.heap.size]? = some (.cells #[v0, v1, v2, v3, v4, v5, v6, v7, v8, v9, v10] 40 (0, 0)) := (hg.block _ (by simp) (by simp; omega)).trans (heap_alloc_new wr _)
  refine ⟨?_, ?_, ?_, ?_⟩ <;> simp [World.cell?, h]

set_option maxRecDepth 100000 in
set_option maxHeartbeats 1000000 in
theorem keys1_in (n : Nat) (hn : 3 ≤ n) (lp bx : Nat) (A : Option Addr) (c : Nat) (l : List GSent) (w0 : World) (hr : RowAt cSent 11 w0 A l) (hl : l.length ≤ 1000) (J Jx : List GKey → World → Prop) (W : World)
    (hJ : AbidesFrom W.heap.size J)
    (hY : ∀ pre x W1, J pre W1 → pre.length < l.length → YieldAt Fence.wide (n - 1) Try.prog lp #[eKey x] W1 fun e W' =>
      (e = .returned (.bool true) ∧ J (pre ++ [x]) W' ∧ Kp w0.heap.size W1 W') ∨ (e = .returned (.bool false) ∧ Jx (pre ++ [x]) W'))
    (hb : Below w0.heap.size w0 W) (hbx : W.heap[bx]? = some (.cells #[.slice A l.length c] 35 (0, 0))) (h0 : J [] W) :
    CallsIn Fence.wide n Try.prog 26 #[.func (.yield lp) #[] #[], .pointer (some ⟨bx, 0, none⟩)] W fun e W' => (∃ v, e = .returned v) ∧
      ((∃ ys, ys = keysGo [] l ∧ J ys W') ∨ (∃ pre, pre <+: keysGo [] l ∧ Jx pre W')) := by
  have hmm := @run_makeMap Try.prog
  have hbox : W.cell? ⟨bx, 0, none⟩ = some (.slice A l.length c) := by simp [World.cell?, hbx]
  have hbl : bx < W.heap.size := (Array.getElem?_eq_some_iff.1 hbx).1
  have HR := Lib.hid hr
  have HJ := Lib.hid hJ
  have HY := Lib.hid hY
  have HB := Lib.hid hb
  have HJ0 := Lib.hid h0
  clear hr hJ hY hb h0 hbx
  refine callsIn_of_wp Try.func26 rfl trivial ?_ rfl
  simp only [Try.ntmps26, List.size_toArray, List.length_cons, List.length_nil, Nat.reduceAdd, Nat.reduceSub, Array.replicate_succ, Array.replicate_zero, List.push_toArray, List.append_toArray, List.nil_append, List.cons_append]
  gi_wp2
  gi_loopw [9] (fun i wr => ∃ k : Nat, k ≤ l.length ∧ i = .int .i64 k ∧ Hid (KInv l w0 W.heap.size J k wr)) (fun i _ => l.length - (intOf i).toNat)
  case atStart => exact ⟨0, Nat.zero_le _, rfl, [], [], mapAt_made _ _, by simp, HB.out.alloc HB.out.size _, HJ.out _ _ _ none HJ0.out (World.grownBy_alloc _ _ _) (by simp), rfl, by simp, by simp⟩
  case round =>
    obtain ⟨k, hk, rfl, hinv⟩ := hrel
    obtain ⟨m, pre, h1, h2, h3, h4, h5, h6, h7⟩ := hinv
    by_cases hlt : k < l.length
    · obtain ⟨x, hx⟩ : ∃ x, l[k]? = some x := ⟨l[k], by simp [hlt]⟩
      have hd : l.drop k = x :: l.drop (k + 1) := drop_at hx
      have hgo : keysGo [] l = pre ++ keysGo m (x :: l.drop (k + 1)) := by rw [h5, hd]
      obtain ⟨sr, sn, ⟨⟨xr, xs⟩, xo, xu⟩, ⟨xk, xa, xn, ⟨xy, xz⟩⟩⟩ := x
      obtain ⟨ad, rfl, hcell⟩ := HR.out.2 k _ hx
      have hS := SentAt.of hcell
      obtain ⟨c0, c1, c2, c3, c4, c5, c6, c7, c8, c9, c10⟩ := hS.below (World.block_lt_of_cell? w0 _ hS.c0) h3
      dsimp only at c0 c1 c2 c3 c4 c5 c6 c7 c8 c9 c10
      have hf : ∀ W', World.mapAt W' eKey W.heap.size m → CallsIn (Fence.wide) (n - 1) Try.prog 18 #[.map (some W.heap.size), .agg #[.int .i64 xr, .int .i64 xs, .int .i64 xo, .bool xu]] W' (FirstPost W.heap.size m ⟨⟨xr, xs⟩, xo, xu⟩ W') := fun W' hW' => callsIn_wide.2 (first_calls W.heap.size m ⟨⟨xr, xs⟩, xo, xu⟩ W' hW' h2)
      have H1 := Lib.hid h1
      have H2 := Lib.hid h2
      have H3 := Lib.hid h3
      have H4 := Lib.hid h4
      have HGO := Lib.hid hgo
      have HF := Lib.hid hf
      have k0 : (0 : Int) ≤ (k : Int) := Int.natCast_nonneg _
      have k1 : (k : Int) < (l.length : Int) := by omega
      have hn1 : 1 ≤ n := by omega
      have H7 := Lib.hid h7
      clear hx hd hcell hS hgo h1 h2 h3 h4 h5 hf
      cases hh : has m ⟨⟨xr, xs⟩, xo, xu⟩
      · have hgo : keysGo [] l = (pre ++ [⟨⟨xr, xs⟩, xo, xu⟩]) ++ keysGo (put m ⟨⟨xr, xs⟩, xo, xu⟩ (.bool true)) (l.drop (k + 1)) := by rw [HGO.out, keysGo]; simp [hh]
        have HG := Lib.hid hgo
        clear hgo
        gi_wp2_with fail
        refine ⟨trivial, ?_⟩
        refine (HF.out _ (mapAt_alloc H1.out _)).mono ?_
        rintro e w1 ⟨rfl, h1, h2⟩
        obtain ⟨e2, e3, e4, e5⟩ := sentBox h2 H7.out
        have hj2 := HJ.out _ _ _ _ H4.out ((World.grownBy_alloc wr _ _).trans h2) (fun r e => by cases e; exact ⟨Nat.le_refl _, mapAt_walk H1.out⟩)
        obtain ⟨fn, tmps, assign, body, hy, hR⟩ := HY.out pre ⟨⟨xr, xs⟩, xo, xu⟩ w1 hj2 (by omega)
        have HM1 := Lib.hid h1
        have HB1 := Lib.hid ((H3.out.alloc H3.out.size _).grown h2 (by simp; exact Nat.le_succ_of_le H3.out.size) (fun j hj => by cases hj; exact HB.out.size))
        have HZ := Lib.hid h2.size
        clear hj2 h1 h2
        dsimp only [eKey, i64] at hy
        gi_wp2
        refine hR.mono ?_
        rintro e W2 (⟨rfl, hj3, hk3⟩ | ⟨rfl, hx3⟩)
        · have HJ3 := Lib.hid hj3
          have HK3 := Lib.hid hk3
          clear hj3 hk3 hR hy e2 e3 e4 e5
          gi_wp2
          go_roundw
          case rel => exact ⟨k + 1, by omega, by go_num, _, _, mapAt_walks HM1.out HK3.out.1, put_true H2.out _, HB1.out.trans HK3.out.2, HJ3.out, HG.out, by simp; omega, by have := HZ.out; have := HK3.out.1.size; simp at *; omega⟩
          case measure => simp [intOf]; omega
        · have HX3 := Lib.hid hx3
          clear hx3 hR hy e2 e3 e4 e5
          gi_wp2
          refine bodyPost_ret (results_none rfl _ _ _) rfl ?_
          exact ⟨⟨_, rfl⟩, .inr ⟨_, ⟨_, HG.out.symm⟩, HX3.out⟩⟩
      · have hgo : keysGo [] l = pre ++ keysGo m (l.drop (k + 1)) := by rw [HGO.out, keysGo]; simp [hh]
        have HG := Lib.hid hgo
        have hsame : put m ⟨⟨xr, xs⟩, xo, xu⟩ (.bool true) = m := put_same H2.out hh
        have HS := Lib.hid hsame
        clear hgo hsame
        gi_wp2_with fail
        refine ⟨trivial, ?_⟩
        refine (HF.out _ (mapAt_alloc H1.out _)).mono ?_
        rintro e w1 ⟨rfl, h1, h2⟩
        obtain ⟨e2, e3, e4, e5⟩ := sentBox h2 H7.out
        have hj2 := HJ.out _ _ _ _ H4.out ((World.grownBy_alloc wr _ _).trans h2) (fun r e => by cases e; exact ⟨Nat.le_refl _, mapAt_walk H1.out⟩)
        rw [HS.out] at h1
        have HM1 := Lib.hid h1
        have HJ2 := Lib.hid hj2
        have HB1 := Lib.hid ((H3.out.alloc H3.out.size _).grown h2 (by simp; exact Nat.le_succ_of_le H3.out.size) (fun j hj => by cases hj; exact HB.out.size))
        have HZ := Lib.hid h2.size
        clear hj2 h1 h2 e2 e3 e4 e5
        gi_wp2
        repeat (refine ⟨fun _ _ => trivial, ?_⟩; gi_wp2)
        go_roundw
        case rel => exact ⟨k + 1, by omega, by go_num, _, _, HM1.out, H2.out, HB1.out, HJ2.out, HG.out, by omega, by have := HZ.out; simp at *; omega⟩
        case measure => simp [intOf]; omega
    · have hk' : k = l.length := by omega
      subst hk'
      have hres : keysGo [] l = pre := by rw [h5]; simp [keysGo]
      have HRES := Lib.hid hres
      have H4 := Lib.hid h4
      clear hres h1 h2 h3 h4 h5
      gi_wp2
      go_end0
      exact ⟨⟨_, rfl⟩, .inl ⟨_, HRES.out.symm, H4.out⟩⟩
end Go.Proofs.Yteddfmhlnahdjaa
