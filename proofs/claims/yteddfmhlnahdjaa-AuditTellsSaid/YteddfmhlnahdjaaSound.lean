/- The walk of audit.Sound: for every list that can be read. -/
import Derived.Test.YteddfmhlnahdjaaIndex
import Derived.Deep.RegionHeld3
namespace Go.Proofs.Yteddfmhlnahdjaa
open Go Go.RowKit

theorem RowAt.take {α : Type} {c : α → List Value} {sz : Nat} {w : World} {A : Option Addr} {l : List α} (h : RowAt c sz w A l) (k : Nat) : RowAt c sz w A (l.take k) := by
  refine ⟨?_, fun i x hx => h.2 i x ?_⟩
  · have := h.1; simp; omega
  · rw [List.getElem?_take] at hx; split at hx
    · exact hx
    · cases hx

def doneB (l : List GReq) (k : Nat) (q : GReq) : Bool := decide (0 ≤ indexGo ⟨other q.key, q.what⟩ (l.take k) 0)
def soundGo (l : List GReq) : Nat → List GReq → Bool
  | _, [] => true
  | k, q :: r => if q.key.undo && !doneB l k q then false else soundGo l (k + 1) r
def SoundInv (l : List GReq) (w : World) (k : Nat) (wr : World) : Prop := soundGo l 0 l = soundGo l k (l.drop k) ∧ Below w.heap.size w wr

def ReqS (b : Nat) (x : GReq) (w W : World) : Prop := (W.cell? ⟨b, 0, none⟩ = some (.int .i64 x.key.id.r) ∧ W.cell? ⟨b, 1, none⟩ = some (.int .i64 x.key.id.s) ∧ W.cell? ⟨b, 2, none⟩ = some (.int .i64 x.key.ord) ∧ W.cell? ⟨b, 3, none⟩ = some (.bool x.key.undo)
          ∧ W.cell? ⟨b, 4, none⟩ = some (.int .i64 x.what.kind) ∧ W.cell? ⟨b, 5, none⟩ = some (.int .i64 x.what.a) ∧ W.cell? ⟨b, 6, none⟩ = some (.int .i64 x.what.n) ∧ W.cell? ⟨b, 7, none⟩ = some (.int .i64 x.what.ref.r) ∧ W.cell? ⟨b, 8, none⟩ = some (.int .i64 x.what.ref.s)) ∧ Hid (Below w.heap.size w W)
theorem ReqS.start {w wr : World} (x : GReq) (hb : Below w.heap.size w wr) : ReqS wr.heap.size x w (wr.alloc (.cells #[.int .i64 x.key.id.r, .int .i64 x.key.id.s, .int .i64 x.key.ord, .bool x.key.undo, .int .i64 x.what.kind, .int .i64 x.what.a, .int .i64 x.what.n, .int .i64 x.what.ref.r, .int .i64 x.what.ref.s] 32)) := by
  have h : BoxAt (wr.alloc (.cells #[.int .i64 x.key.id.r, .int .i64 x.key.id.s, .int .i64 x.key.ord, .bool x.key.undo, .int .i64 x.what.kind, .int .i64 x.what.a, .int .i64 x.what.n, .int .i64 x.what.ref.r, .int .i64 x.what.ref.s] 32)) wr.heap.size x := heap_alloc_new wr _
  obtain ⟨c0, c1, c2, c3, c4, c5, c6, c7, c8⟩ := h.reqAt
  exact ⟨⟨c0, c1, c2, c3, c4, c5, c6, c7, c8⟩, hb.alloc hb.size _⟩
theorem ReqS.drew {b : Nat} {x : GReq} {w W : World} (h : ReqS b x w W) : ReqS b x w W.drew := ⟨h.1, h.2.out.drew⟩
theorem wp_abs {P : Program} {c : Code} {Q : Exit → Act → World → Prop} {a : Act} {w : World} (S : World → Prop) (hS : S w) (h : ∀ W, S W → c.wp P Q a W) : c.wp P Q a w := h w hS
theorem ReqS.next {b : Nat} {x : GReq} {w W W1 : World} (h : ReqS b x w W) (hb : Below W.heap.size W W1) : ReqS b x w W1 := by
  obtain ⟨⟨c0, c1, c2, c3, c4, c5, c6, c7, c8⟩, h⟩ := h
  exact ⟨⟨(hb.cell (cell_lt c0)).trans c0, (hb.cell (cell_lt c1)).trans c1, (hb.cell (cell_lt c2)).trans c2, (hb.cell (cell_lt c3)).trans c3, (hb.cell (cell_lt c4)).trans c4, (hb.cell (cell_lt c5)).trans c5, (hb.cell (cell_lt c6)).trans c6, (hb.cell (cell_lt c7)).trans c7, (hb.cell (cell_lt c8)).trans c8⟩, below_call h.out hb⟩

theorem sound_calls (A : Option Addr) (c : Nat) (l : List GReq) (w : World) (hr : RowAt cReq 9 w A l) (hc : l.length ≤ c) :
    Calls Try.prog 9 #[.slice A l.length c] w (cellsEnd (.bool (soundGo l 0 l)) w) := by
  have HR := Lib.hid hr
  have hlen : l.length ≤ 9223372036854775807 := hr.1
  clear hr
  go_enter Try.func9, Try.ntmps9
  go_wp2
  go_loopw [8] (fun i wr => ∃ k : Nat, k ≤ l.length ∧ i = .int .i64 k ∧ Hid (SoundInv l w k wr)) (fun i _ => l.length - (intOf i).toNat)
  case atStart => exact ⟨0, Nat.zero_le _, rfl, rfl, Below.refl _ _⟩
  case round =>
    obtain ⟨k, hk, rfl, hinv⟩ := hrel
    by_cases hlt : k < l.length
    · obtain ⟨x, hx⟩ : ∃ x, l[k]? = some x := ⟨l[k], by simp [hlt]⟩
      obtain ⟨ad, rfl, hcell⟩ := HR.out.2 k x hx
      obtain ⟨h1, h2⟩ := hinv
      obtain ⟨c0, c1, c2, c3, c4, c5, c6, c7, c8⟩ := (ReqAt.of hcell).below h2
      have HX := Lib.hid hx
      have H1 := Lib.hid h1
      have H2 := Lib.hid h2
      have k0 : (0 : Int) ≤ (k : Int) := Int.natCast_nonneg _
      have k1 : (k : Int) < (l.length : Int) := by omega
      have k2 : (k : Int) ≤ (c : Int) := by omega
      have k3 : ¬ c = 0 := by omega
      clear hx h1 h2 hcell
      have hOth : ∀ W, Calls Try.prog 20 #[.agg #[i64 x.key.id.r, i64 x.key.id.s, i64 x.key.ord, .bool x.key.undo]] W (cellsEnd (.agg #[i64 x.key.id.r, i64 x.key.id.s, i64 x.key.ord, .bool (!x.key.undo)]) W) := fun W => other_calls x.key W
      have hCon : ∀ W, Below w.heap.size w W → Calls Try.prog 19 #[.slice (some ad) k c, .agg #[i64 x.key.id.r, i64 x.key.id.s, i64 x.key.ord, .bool (!x.key.undo), i64 x.what.kind, i64 x.what.a, i64 x.what.n, i64 x.what.ref.r, i64 x.what.ref.s]] W (cellsEnd (.bool (doneB l k x)) W) := fun W hW => by
        have h := contains_calls (some ad) c (l.take k) ⟨other x.key, x.what⟩ W ((HR.out.take k).below hW)
        rw [show (l.take k).length = k by simp; omega] at h
        exact h
      have HOTH := Lib.hid hOth
      have HCON := Lib.hid hCon
      clear hOth hCon
      go_wp2
      refine wp_abs (ReqS wr.heap.size x w) (ReqS.start x H2.out) ?_
      intro W0 hS0
      have HS0 := Lib.hid hS0
      clear hS0
      go_region_held3 (fun W => (W.cell? ⟨wr.heap.size, 0, none⟩ = some (.int .i64 x.key.id.r) ∧ W.cell? ⟨wr.heap.size, 1, none⟩ = some (.int .i64 x.key.id.s) ∧ W.cell? ⟨wr.heap.size, 2, none⟩ = some (.int .i64 x.key.ord) ∧ W.cell? ⟨wr.heap.size, 3, none⟩ = some (.bool x.key.undo)
          ∧ W.cell? ⟨wr.heap.size, 4, none⟩ = some (.int .i64 x.what.kind) ∧ W.cell? ⟨wr.heap.size, 5, none⟩ = some (.int .i64 x.what.a) ∧ W.cell? ⟨wr.heap.size, 6, none⟩ = some (.int .i64 x.what.n) ∧ W.cell? ⟨wr.heap.size, 7, none⟩ = some (.int .i64 x.what.ref.r) ∧ W.cell? ⟨wr.heap.size, 8, none⟩ = some (.int .i64 x.what.ref.s)) ∧ Hid (Below w.heap.size w W))
        (first | exact HS2.out | exact HS1.out | exact ReqS.drew HS0.out)
        (first
          | (go_at_call 20; refine (HOTH.out _).mono ?_; rintro e w1 ⟨rfl, hb⟩; have HS1 := Lib.hid (ReqS.next (ReqS.drew HS0.out) hb); clear hb)
          | (go_at_call 19; refine (HCON.out _ HS1.out.2.out).mono ?_; rintro e w2 ⟨rfl, hb⟩; have HS2 := Lib.hid (ReqS.next HS1.out hb); clear hb))
      have hd : l.drop k = x :: l.drop (k + 1) := drop_at HX.out
      have hgo : soundGo l 0 l = if x.key.undo && !doneB l k x then false else soundGo l (k + 1) (l.drop (k + 1)) := by rw [H1.out, hd, soundGo]
      have HGO := Lib.hid hgo
      clear hd hgo c0 c1 c2 c3 c4 c5 c6 c7 c8
      obtain ⟨⟨b0, b1, b2, b3, b4, b5, b6, b7, b8⟩, hbw⟩ := HS2.out
      clear b0 b1 b2 b4 b5 b6 b7 b8 hbw
      cases hu : x.key.undo
      · have hres : soundGo l 0 l = soundGo l (k + 1) (l.drop (k + 1)) := by rw [HGO.out, hu]; rfl
        have HRES := Lib.hid hres
        clear hres
        go_wp2
        go_roundw
        case rel => exact ⟨k + 1, by omega, by go_num, HRES.out, HS2.out.2.out⟩
        case measure => simp [intOf]; omega
      · cases hdn : doneB l k x
        · have hres : soundGo l 0 l = false := by rw [HGO.out, hu, hdn]; rfl
          have HRES := Lib.hid hres
          clear hres
          go_wp2
          go_ret
          exact ⟨by rw [HRES.out]; rfl, HS2.out.2.out⟩
        · have hres : soundGo l 0 l = soundGo l (k + 1) (l.drop (k + 1)) := by rw [HGO.out, hu, hdn]; rfl
          have HRES := Lib.hid hres
          clear hres
          go_wp2
          go_roundw
          case rel => exact ⟨k + 1, by omega, by go_num, HRES.out, HS2.out.2.out⟩
          case measure => simp [intOf]; omega
    · have hk' : k = l.length := by omega
      subst hk'
      obtain ⟨h1, h2⟩ := hinv
      have hres : soundGo l 0 l = true := by rw [h1]; simp [soundGo]
      have HRES := Lib.hid hres
      have H2 := Lib.hid h2
      clear hres h1 h2
      go_wp2
      go_ret
      exact ⟨by rw [HRES.out]; rfl, H2.out⟩
end Go.Proofs.Yteddfmhlnahdjaa
