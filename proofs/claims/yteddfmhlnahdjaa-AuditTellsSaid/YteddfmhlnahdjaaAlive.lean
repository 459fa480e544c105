/- alive: the walk. -/
import Derived.Test.YteddfmhlnahdjaaLawst
import Derived.Test.YteddfmhlnahdjaaSpaced
import Derived.Test.YteddfmhlnahdjaaStacked
import Derived.Test.YteddfmhlnahdjaaAlike
namespace Go.Proofs.Yteddfmhlnahdjaa
open Go Go.RowKit

def ka : GKey := ⟨⟨0, 0⟩, 1, false⟩
def kb : GKey := ⟨⟨0, 0⟩, 2, false⟩
def lA : List GReq := [⟨ka, zEff⟩, ⟨kb, zEff⟩, ⟨⟨⟨0, 0⟩, 1, true⟩, zEff⟩]
def sA : List GSent := [⟨0, 1, ka, zEff⟩, ⟨0, 2, ka, zEff⟩]
def gA : GCfg := ⟨0, 0, 1, 2, 5⟩

def KBox2 (w W : World) : Prop := KeyBox W w.heap.size ka ∧ KeyBox W (w.heap.size + 1) kb ∧ Below w.heap.size w W
theorem KeyBox.next {W W1 : World} {b : Nat} {k : GKey} (h : KeyBox W b k) (hb : Below W.heap.size W W1) : KeyBox W1 b k := (hb.block _ (Array.getElem?_eq_some_iff.1 h).1).trans h
theorem KBox2.next {w W W1 : World} (h : KBox2 w W) (hb : Below W.heap.size W W1) : KBox2 w W1 := ⟨h.1.next hb, h.2.1.next hb, below_call h.2.2 hb⟩
def AlA (w W : World) : Prop :=
  ((W.cell? ⟨w.heap.size, 0, none⟩ = some (.int .i64 0) ∧ W.cell? ⟨w.heap.size, 1, none⟩ = some (.int .i64 0) ∧ W.cell? ⟨w.heap.size, 2, none⟩ = some (.int .i64 1) ∧ W.cell? ⟨w.heap.size, 3, none⟩ = some (.bool false))
  ∧ (W.cell? ⟨w.heap.size + 1, 0, none⟩ = some (.int .i64 0) ∧ W.cell? ⟨w.heap.size + 1, 1, none⟩ = some (.int .i64 0) ∧ W.cell? ⟨w.heap.size + 1, 2, none⟩ = some (.int .i64 2) ∧ W.cell? ⟨w.heap.size + 1, 3, none⟩ = some (.bool false)))
  ∧ Hid (KBox2 w W)
theorem AlA.of {w W : World} (h : KBox2 w W) : AlA w W := ⟨⟨h.1.cells, h.2.1.cells⟩, Lib.hid h⟩
theorem AlA.next {w W W1 : World} (h : AlA w W) (hb : Below W.heap.size W W1) : AlA w W1 := .of (h.2.out.next hb)
theorem AlA.drew {w W : World} (h : AlA w W) : AlA w W.drew := h.next (Below.refl _ _).drew
theorem AlA.alloc {w W : World} (h : AlA w W) (o : Obj) : AlA w (W.alloc o) := h.next ((Below.refl _ _).alloc (Nat.le_refl _) o)

theorem flat_get {α : Type} (c : α → List Value) (sz : Nat) (hc : ∀ x, (c x).length = sz) : ∀ (l : List α) (i : Nat) (x : α), l[i]? = some x → ∀ j v, (c x)[j]? = some v → (l.flatMap c)[i * sz + j]? = some v
  | [], _, _, h, _, _, _ => by simp at h
  | y :: l, 0, x, h, j, v, hv => by
    simp only [List.getElem?_cons_zero, Option.some.injEq] at h
    subst h
    have hj : j < (c y).length := (List.getElem?_eq_some_iff.1 hv).1
    rw [List.flatMap_cons, Nat.zero_mul, Nat.zero_add, List.getElem?_append_left hj]
    exact hv
  | y :: l, i + 1, x, h, j, v, hv => by
    simp only [List.getElem?_cons_succ] at h
    have ih := flat_get c sz hc l i x h j v hv
    rw [List.flatMap_cons, List.getElem?_append_right (by rw [hc, Nat.succ_mul]; omega), hc, show (i + 1) * sz + j - sz = i * sz + j by rw [Nat.succ_mul]; omega]
    exact ih
theorem row_of_block {α : Type} {c : α → List Value} {sz : Nat} (hc : ∀ x, (c x).length = sz) {W : World} {B : Nat} {e : TypeId} {p : Nat × Nat} {l : List α} (hl : l.length ≤ 9223372036854775807)
    (h : W.heap[B]? = some (.cells (l.flatMap c).toArray e p)) : RowAt c sz W (some ⟨B, 0, none⟩) l := by
  refine ⟨hl, fun i x hx => ⟨_, rfl, fun j v hv => ?_⟩⟩
  have := flat_get c sz hc l i x hx j v hv
  rw [Addr.add_lit, Addr.add_lit]
  simp [World.cell?, h, this]
theorem RowAt.drop {α : Type} {c : α → List Value} {sz : Nat} {w : World} {ad : Addr} {l : List α} (h : RowAt c sz w (some ad) l) (k : Nat) : RowAt c sz w (some (ad.add (k * sz))) (l.drop k) := by
  refine ⟨?_, fun i x hx => ?_⟩
  · have := h.1; simp; omega
  · rw [List.getElem?_drop] at hx
    obtain ⟨ad', he, hcell⟩ := h.2 (k + i) x hx
    cases he
    refine ⟨_, rfl, fun j v hv => ?_⟩
    have := hcell j v hv
    rwa [show ((k + i) * sz) = k * sz + i * sz from Nat.add_mul _ _ _, ← Addr.add_add] at this

def AlRest (w : World) (B : Nat) (W : World) : Prop :=
  RowAt cReq 9 W (some ⟨B, 0, none⟩) lA ∧ RowAt cSent 11 W (some ⟨B + 1, 0, none⟩) sA ∧ KeyBox W w.heap.size ka ∧
  W.heap[B + 2]? = some (.cells #[.int .i64 0, .int .i64 0, .int .i64 1, .int .i64 2, .int .i64 5] 37 (0, 0)) ∧ Below w.heap.size w W
theorem AlRest.next {w W W1 : World} {B : Nat} (h : AlRest w B W) (hb : Below W.heap.size W W1) : AlRest w B W1 :=
  ⟨h.1.below hb, h.2.1.below hb, h.2.2.1.next hb, (hb.block _ (Array.getElem?_eq_some_iff.1 h.2.2.2.1).1).trans h.2.2.2.1, below_call h.2.2.2.2 hb⟩
def AlB (w : World) (B : Nat) (W : World) : Prop :=
  ((W.cell? ⟨w.heap.size, 0, none⟩ = some (.int .i64 0) ∧ W.cell? ⟨w.heap.size, 1, none⟩ = some (.int .i64 0) ∧ W.cell? ⟨w.heap.size, 2, none⟩ = some (.int .i64 1) ∧ W.cell? ⟨w.heap.size, 3, none⟩ = some (.bool false))
  ∧ (W.cell? ⟨B + 2, 0, none⟩ = some (.int .i64 0) ∧ W.cell? ⟨B + 2, 1, none⟩ = some (.int .i64 0) ∧ W.cell? ⟨B + 2, 2, none⟩ = some (.int .i64 1) ∧ W.cell? ⟨B + 2, 3, none⟩ = some (.int .i64 2) ∧ W.cell? ⟨B + 2, 4, none⟩ = some (.int .i64 5)))
  ∧ Hid (AlRest w B W)
theorem AlB.of {w W : World} {B : Nat} (h : AlRest w B W) : AlB w B W := ⟨⟨h.2.2.1.cells, by simp [World.cell?, h.2.2.2.1]⟩, Lib.hid h⟩
theorem AlB.next {w W W1 : World} {B : Nat} (h : AlB w B W) (hb : Below W.heap.size W W1) : AlB w B W1 := .of (h.2.out.next hb)
theorem AlB.drew {w W : World} {B : Nat} (h : AlB w B W) : AlB w B W.drew := h.next (Below.refl _ _).drew

def L27 : Array Value := #[.int .i64 0, .int .i64 0, .int .i64 1, .bool false, .int .i64 0, .int .i64 0, .int .i64 0, .int .i64 0, .int .i64 0, .int .i64 0, .int .i64 0, .int .i64 2, .bool false, .int .i64 0, .int .i64 0, .int .i64 0, .int .i64 0, .int .i64 0,
  i64 0, i64 0, i64 1, .bool true, .int .i64 0, .int .i64 0, .int .i64 0, .int .i64 0, .int .i64 0]
def L22 : Array Value := #[.int .i64 0, .int .i64 1, .int .i64 0, .int .i64 0, .int .i64 1, .bool false, .int .i64 0, .int .i64 0, .int .i64 0, .int .i64 0, .int .i64 0, .int .i64 0, .int .i64 2, .int .i64 0, .int .i64 0, .int .i64 1, .bool false, .int .i64 0, .int .i64 0, .int .i64 0, .int .i64 0, .int .i64 0]
theorem alRest_start {w w1 : World} (h : KBox2 w w1) :
    AlRest w w1.heap.size (((w1.alloc (Obj.cells L27 32)).alloc (Obj.cells L22 40)).alloc (Obj.cells #[.int .i64 0, .int .i64 0, .int .i64 1, .int .i64 2, .int .i64 5] 37)) := by
  have hb : Below w1.heap.size w1 (((w1.alloc (Obj.cells L27 32)).alloc (Obj.cells L22 40)).alloc (Obj.cells #[.int .i64 0, .int .i64 0, .int .i64 1, .int .i64 2, .int .i64 5] 37)) :=
    (((Below.refl _ w1).alloc (Nat.le_refl _) _).alloc (by simp) _).alloc (by simp <;> omega) _
  refine ⟨row_of_block (c := cReq) (sz := 9) (l := lA) (e := 32) (p := (0, 0)) (fun _ => rfl) (by decide) ?_, row_of_block (c := cSent) (sz := 11) (l := sA) (e := 40) (p := (0, 0)) (fun _ => rfl) (by decide) ?_, h.1.next hb, ?_, below_call h.2.2 hb⟩
  · rw [Below.heap_alloc _ _ _ (by simp <;> omega), Below.heap_alloc _ _ _ (by simp)]; exact heap_alloc_new _ _
  · rw [Below.heap_alloc _ _ _ (by simp)]; exact heap_new2 _ _ _
  · have := heap_new2 (w1.alloc (Obj.cells L27 32)) (Obj.cells L22 40) (Obj.cells #[.int .i64 0, .int .i64 0, .int .i64 1, .int .i64 2, .int .i64 5] 37)
    simpa using this

set_option maxHeartbeats 8000000 in
theorem alive_calls (w : World) : Calls Try.prog 5 #[] w (cellsEnd (.bool true) w) := by
  have hOth : ∀ W, Calls Try.prog 7 #[.agg #[i64 0, i64 0, i64 1, .bool false]] W (cellsEnd (.agg #[i64 0, i64 0, i64 1, .bool true]) W) := fun W => ref_other_calls ka W
  have HOTH := Lib.hid hOth
  clear hOth
  go_enter Try.func5, Try.ntmps5
  go_wp2
  have h0 : KBox2 w ((w.alloc (Obj.cells #[Value.int IntKind.i64 0, Value.int IntKind.i64 0, Value.int IntKind.i64 1, Value.bool false] 28)).alloc
      (Obj.cells #[Value.int IntKind.i64 0, Value.int IntKind.i64 0, Value.int IntKind.i64 2, Value.bool false] 28)) :=
    ⟨(Below.heap_alloc _ _ _ (by simp)).trans (heap_alloc_new _ _), heap_new2 _ _ _, ((Below.refl _ w).alloc (Nat.le_refl _) _).alloc (by simp) _⟩
  refine wp_abs (AlA w) (.of h0) ?_
  clear h0
  intro W0 hS0
  have HS0 := Lib.hid hS0
  clear hS0
  go_region_held3 (fun W => ((W.cell? ⟨w.heap.size, 0, none⟩ = some (.int .i64 0) ∧ W.cell? ⟨w.heap.size, 1, none⟩ = some (.int .i64 0) ∧ W.cell? ⟨w.heap.size, 2, none⟩ = some (.int .i64 1) ∧ W.cell? ⟨w.heap.size, 3, none⟩ = some (.bool false))
      ∧ (W.cell? ⟨w.heap.size + 1, 0, none⟩ = some (.int .i64 0) ∧ W.cell? ⟨w.heap.size + 1, 1, none⟩ = some (.int .i64 0) ∧ W.cell? ⟨w.heap.size + 1, 2, none⟩ = some (.int .i64 2) ∧ W.cell? ⟨w.heap.size + 1, 3, none⟩ = some (.bool false)))
      ∧ Hid (KBox2 w W))
    (first | exact HS1.out.alloc _ | exact HS1.out | exact HS0.out.drew)
    (first | (go_at_call 7; refine (HOTH.out _).mono ?_; rintro e w1 ⟨rfl, hb⟩; have HS1 := Lib.hid (AlA.next HS0.out.drew hb); clear hb))
  have HS2 := Lib.hid HS1.out.2.out
  clear HS0 HOTH
  go_wp2
  obtain ⟨B, hB⟩ : ∃ B, B = w1.heap.size := ⟨_, rfl⟩
  rw [← hB]
  refine wp_abs (AlB w B) (by rw [hB]; exact .of (alRest_start HS2.out)) ?_
  clear HS1 HS2 hB
  intro W2 hS2
  have HS := Lib.hid hS2
  clear hS2
  have h8 : ∀ W, AlRest w B W → Calls Try.prog 8 #[.slice (some ⟨B, 0, none⟩) 3 3] W (cellsEnd (.bool true) W) := fun W h => once_calls _ 3 lA W h.1
  have h9 : ∀ W, AlRest w B W → Calls Try.prog 9 #[.slice (some ⟨B, 0, none⟩) 3 3] W (cellsEnd (.bool true) W) := fun W h => sound_calls _ 3 lA W h.1 (by decide)
  have h10 : ∀ W, AlRest w B W → Calls Try.prog 10 #[.slice (some ⟨B, 0, none⟩) 3 3] W (cellsEnd (.bool false) W) := fun W h => stacked_calls _ 3 lA W h.1 (by decide)
  have h10' : ∀ W, AlRest w B W → Calls Try.prog 10 #[.slice (some ⟨B, 0, none⟩) 2 3] W (cellsEnd (.bool true) W) := fun W h => stacked_calls _ 3 (lA.take 2) W (h.1.take 2) (by decide)
  have h12 : ∀ W, AlRest w B W → Calls Try.prog 12 #[.slice (some ⟨B, 0, none⟩) 3 3] W (cellsEnd (.bool true) W) := fun W h => alike_calls _ 3 lA W h.1
  have h9' : ∀ W, AlRest w B W → Calls Try.prog 9 #[.slice (some ⟨B, 18, none⟩) 1 1] W (cellsEnd (.bool false) W) := fun W h => sound_calls (some ⟨B, 18, none⟩) 1 (lA.drop 2) W (h.1.drop 2) (by decide)
  have h16 : ∀ W, AlRest w B W → Calls Try.prog 16 #[.slice (some ⟨B + 1, 0, none⟩) 2 2, .agg #[.int .i64 0, .int .i64 0, .int .i64 1, .int .i64 2, .int .i64 5]] W (cellsEnd (.bool false) W) := fun W h => spaced_calls _ 2 sA gA W h.2.1 (by decide)
  have h16' : ∀ W, AlRest w B W → Calls Try.prog 16 #[.slice (some ⟨B + 1, 0, none⟩) 1 2, .agg #[.int .i64 0, .int .i64 0, .int .i64 1, .int .i64 2, .int .i64 5]] W (cellsEnd (.bool true) W) := fun W h => spaced_calls _ 2 (sA.take 1) gA W (h.2.1.take 1) (by decide)
  have h17 : ∀ W, AlRest w B W → Calls Try.prog 17 #[.slice (some ⟨B + 1, 0, none⟩) 2 2] W (cellsEnd (.int .i64 2) W) := fun W h => most_calls _ 2 sA W h.2.1 (by decide)
  have h15 : ∀ W, AlRest w B W → Calls Try.prog 15 #[.slice (some ⟨B + 1, 0, none⟩) 2 2, .agg #[.int .i64 0, .int .i64 0, .int .i64 1, .bool false]] W (fun e W' => ∃ A c, e = .returned (.slice A 2 c) ∧ Below W.heap.size W W') := fun W h =>
    (tries_calls _ 2 sA ka W h.2.1 (by decide)).mono (by
      rintro e w' ⟨v, rfl, h1, h2⟩
      obtain ⟨A, c, rfl⟩ := own_slice h1
      exact ⟨A, c, rfl, h2⟩)
  have H8 := Lib.hid h8
  have H9 := Lib.hid h9
  have H10 := Lib.hid h10
  have H10' := Lib.hid h10'
  have H12 := Lib.hid h12
  have H9' := Lib.hid h9'
  have H16 := Lib.hid h16
  have H16' := Lib.hid h16'
  have H17 := Lib.hid h17
  have H15 := Lib.hid h15
  clear h8 h9 h9' h10 h10' h12 h16 h16' h17 h15
  refine wp_abs (fun W => AlB w B W.drew) HS.out.drew ?_
  clear HS
  intro W3 hS3
  have HS := Lib.hid hS3
  clear hS3
  go_region_held3 (fun W => ((W.cell? ⟨w.heap.size, 0, none⟩ = some (.int .i64 0) ∧ W.cell? ⟨w.heap.size, 1, none⟩ = some (.int .i64 0) ∧ W.cell? ⟨w.heap.size, 2, none⟩ = some (.int .i64 1) ∧ W.cell? ⟨w.heap.size, 3, none⟩ = some (.bool false))
      ∧ (W.cell? ⟨B + 2, 0, none⟩ = some (.int .i64 0) ∧ W.cell? ⟨B + 2, 1, none⟩ = some (.int .i64 0) ∧ W.cell? ⟨B + 2, 2, none⟩ = some (.int .i64 1) ∧ W.cell? ⟨B + 2, 3, none⟩ = some (.int .i64 2) ∧ W.cell? ⟨B + 2, 4, none⟩ = some (.int .i64 5)))
      ∧ Hid (AlRest w B W))
    (exact HS.out)
    (first
      | (go_at_call 8; have hc := H8.out; clear H8; refine (hc _ HS.out.2.out).mono ?_; clear hc; rintro e w3 ⟨rfl, hb⟩; have HS' := Lib.hid (AlB.next HS.out hb); clear hb HS; have HS := HS'; clear HS')
      | (go_at_call 9; have hc := H9.out; clear H9; refine (hc _ HS.out.2.out).mono ?_; clear hc; rintro e w3 ⟨rfl, hb⟩; have HS' := Lib.hid (AlB.next HS.out hb); clear hb HS; have HS := HS'; clear HS')
      | (go_at_call 9; refine (H9'.out _ HS.out.2.out).mono ?_; rintro e w3 ⟨rfl, hb⟩; have HS' := Lib.hid (AlB.next HS.out hb); clear hb HS; have HS := HS'; clear HS')
      | (go_at_call 10; have hc := H10.out; clear H10; refine (hc _ HS.out.2.out).mono ?_; clear hc; rintro e w3 ⟨rfl, hb⟩; have HS' := Lib.hid (AlB.next HS.out hb); clear hb HS; have HS := HS'; clear HS')
      | (go_at_call 10; refine (H10'.out _ HS.out.2.out).mono ?_; rintro e w3 ⟨rfl, hb⟩; have HS' := Lib.hid (AlB.next HS.out hb); clear hb HS; have HS := HS'; clear HS')
      | (go_at_call 12; have hc := H12.out; clear H12; refine (hc _ HS.out.2.out).mono ?_; clear hc; rintro e w3 ⟨rfl, hb⟩; have HS' := Lib.hid (AlB.next HS.out hb); clear hb HS; have HS := HS'; clear HS')
      | (go_at_call 16; have hc := H16.out; clear H16; refine (hc _ HS.out.2.out).mono ?_; clear hc; rintro e w3 ⟨rfl, hb⟩; have HS' := Lib.hid (AlB.next HS.out hb); clear hb HS; have HS := HS'; clear HS')
      | (go_at_call 16; refine (H16'.out _ HS.out.2.out).mono ?_; rintro e w3 ⟨rfl, hb⟩; have HS' := Lib.hid (AlB.next HS.out hb); clear hb HS; have HS := HS'; clear HS')
      | (go_at_call 17; have hc := H17.out; clear H17; refine (hc _ HS.out.2.out).mono ?_; clear hc; rintro e w3 ⟨rfl, hb⟩; have HS' := Lib.hid (AlB.next HS.out hb); clear hb HS; have HS := HS'; clear HS')
      | (go_at_call 15; refine (H15.out _ HS.out.2.out).mono ?_; rintro e w3 ⟨A9, c9, rfl, hb⟩; have HS' := Lib.hid (AlB.next HS.out hb); clear hb HS; have HS := HS'; clear HS'))
  go_wp2
  go_ret
  exact ⟨rfl, HS.out.2.out.2.2.2.2⟩
end Go.Proofs.Yteddfmhlnahdjaa
