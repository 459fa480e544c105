/- The walks of ident.Other, slices.Index and slices.Contains at lists of requests. For every list that can be read. -/
import Derived.Test.YteddfmhlnahdjaaOnce
import Derived.Deep.QuietTactic
import Derived.BigQuiet
namespace Go.Proofs.Yteddfmhlnahdjaa
open Go Go.RowKit

theorem below_call {w w1 w2 : World} (h : Below w.heap.size w w1) (hb : Below w1.heap.size w1 w2) : Below w.heap.size w w2 := h.trans (hb.mono h.size)
def other (k : GKey) : GKey := { k with undo := !k.undo }
def cellsEnd (v : Value) (w : World) (e : Ending) (w' : World) : Prop := e = .returned v ∧ Below w.heap.size w w'
theorem other_calls (k : GKey) (w : World) : Calls Try.prog 20 #[eKey k] w (cellsEnd (eKey (other k)) w) := by
  show Calls Try.prog 20 #[.agg #[i64 k.id.r, i64 k.id.s, i64 k.ord, .bool k.undo]] w _
  go_enter Try.func20, Try.ntmps20
  go_wp2
  exact bodyPost_ret (v := eKey (other k)) (by simp [results, Try.results20, go_sem, eKey, other]) rfl ⟨rfl, ((Below.refl _ _).alloc (Nat.le_refl _) _).alloc (by simp) _⟩

theorem ref_other_calls (k : GKey) (w : World) : Calls Try.prog 7 #[eKey k] w (cellsEnd (eKey (other k)) w) := by
  show Calls Try.prog 7 #[.agg #[i64 k.id.r, i64 k.id.s, i64 k.ord, .bool k.undo]] w _
  go_enter Try.func7, Try.ntmps7
  go_wp2
  exact bodyPost_ret (v := eKey (other k)) (by simp [results, Try.results7, go_sem, eKey, other]) rfl ⟨rfl, ((Below.refl _ _).alloc (Nat.le_refl _) _).alloc (by simp) _⟩

/-- the nine cells of a request, as the walk asks for them -/
structure ReqAt (w : World) (p : Addr) (q : GReq) : Prop where
  c0 : w.cell? p = some (.int .i64 q.key.id.r)
  c1 : w.cell? ⟨p.block, p.off + 1, none⟩ = some (.int .i64 q.key.id.s)
  c2 : w.cell? ⟨p.block, p.off + 2, none⟩ = some (.int .i64 q.key.ord)
  c3 : w.cell? ⟨p.block, p.off + 3, none⟩ = some (.bool q.key.undo)
  c4 : w.cell? ⟨p.block, p.off + 4, none⟩ = some (.int .i64 q.what.kind)
  c5 : w.cell? ⟨p.block, p.off + 5, none⟩ = some (.int .i64 q.what.a)
  c6 : w.cell? ⟨p.block, p.off + 6, none⟩ = some (.int .i64 q.what.n)
  c7 : w.cell? ⟨p.block, p.off + 7, none⟩ = some (.int .i64 q.what.ref.r)
  c8 : w.cell? ⟨p.block, p.off + 8, none⟩ = some (.int .i64 q.what.ref.s)
theorem ReqAt.of {w : World} {p : Addr} {q : GReq} (h : ∀ j v, (cReq q)[j]? = some v → w.cell? (p.add j) = some v) : ReqAt w p q :=
  ⟨by simpa [Addr.add] using h 0 _ rfl, by simpa [Addr.add] using h 1 _ rfl, by simpa [Addr.add] using h 2 _ rfl, by simpa [Addr.add] using h 3 _ rfl, by simpa [Addr.add] using h 4 _ rfl,
   by simpa [Addr.add] using h 5 _ rfl, by simpa [Addr.add] using h 6 _ rfl, by simpa [Addr.add] using h 7 _ rfl, by simpa [Addr.add] using h 8 _ rfl⟩
theorem cell_lt {w : World} {p : Addr} {v : Value} (h : w.cell? p = some v) : p.block < w.heap.size := World.block_lt_of_cell? w p h
theorem ReqAt.below {w w' : World} {p : Addr} {q : GReq} (h : ReqAt w p q) (hb : Below w.heap.size w w') : ReqAt w' p q :=
  ⟨(hb.cell (cell_lt h.c0)).trans h.c0, (hb.cell (cell_lt h.c1)).trans h.c1, (hb.cell (cell_lt h.c2)).trans h.c2, (hb.cell (cell_lt h.c3)).trans h.c3, (hb.cell (cell_lt h.c4)).trans h.c4,
   (hb.cell (cell_lt h.c5)).trans h.c5, (hb.cell (cell_lt h.c6)).trans h.c6, (hb.cell (cell_lt h.c7)).trans h.c7, (hb.cell (cell_lt h.c8)).trans h.c8⟩

def indexGo (q : GReq) : List GReq → Int → Int
  | [], _ => -1
  | x :: r, i => if q = x then i else indexGo q r (i + 1)
def IdxPost (l : List GReq) (q : GReq) (w : World) (e : Ending) (w' : World) : Prop := e = .returned (.int .i64 (indexGo q l 0)) ∧ Below w.heap.size w w'
def BoxAt (w : World) (b : Nat) (q : GReq) : Prop := w.heap[b]? = some (.cells #[i64 q.key.id.r, i64 q.key.id.s, i64 q.key.ord, .bool q.key.undo, i64 q.what.kind, i64 q.what.a, i64 q.what.n, i64 q.what.ref.r, i64 q.what.ref.s] 32 (0, 0))
def IdxInv (l : List GReq) (q : GReq) (w : World) (k : Nat) (wr : World) : Prop :=
  indexGo q l 0 = indexGo q (l.drop k) k ∧ Below w.heap.size w wr ∧ BoxAt wr w.heap.size q
theorem BoxAt.reqAt {w : World} {b : Nat} {q : GReq} (h : BoxAt w b q) : ReqAt w ⟨b, 0, none⟩ q := by
  constructor <;> simp [World.cell?, show w.heap[b]? = _ from h]

theorem index_calls (A : Option Addr) (c : Nat) (l : List GReq) (q : GReq) (w : World) (hr : RowAt cReq 9 w A l) :
    Calls Try.prog 25 #[.slice A l.length c, eReq q] w (IdxPost l q w) := by
  have HR := Lib.hid hr
  have hlen : l.length ≤ 9223372036854775807 := hr.1
  clear hr
  show Calls Try.prog 25 #[.slice A l.length c, .agg #[i64 q.key.id.r, i64 q.key.id.s, i64 q.key.ord, .bool q.key.undo, i64 q.what.kind, i64 q.what.a, i64 q.what.n, i64 q.what.ref.r, i64 q.what.ref.s]] w _
  go_enter Try.func25, Try.ntmps25
  go_wp2
  go_loopw [8] (fun i wr => ∃ k : Nat, k ≤ l.length ∧ i = .int .i64 k ∧ Hid (IdxInv l q w k wr)) (fun i _ => l.length - (intOf i).toNat)
  case atStart => exact ⟨0, Nat.zero_le _, rfl, rfl, (Below.refl _ _).alloc (Nat.le_refl _) _, heap_alloc_new w _⟩
  case round =>
    obtain ⟨k, hk, rfl, hinv⟩ := hrel
    by_cases hlt : k < l.length
    · obtain ⟨x, hx⟩ : ∃ x, l[k]? = some x := ⟨l[k], by simp [hlt]⟩
      obtain ⟨ad, rfl, hcell⟩ := HR.out.2 k x hx
      obtain ⟨h1, h2, h3⟩ := hinv
      obtain ⟨b0, b1, b2, b3, b4, b5, b6, b7, b8⟩ := h3.reqAt
      obtain ⟨c0, c1, c2, c3, c4, c5, c6, c7, c8⟩ := (ReqAt.of hcell).below h2
      have HX := Lib.hid hx
      have H1 := Lib.hid h1
      have H2 := Lib.hid h2
      have H3 := Lib.hid h3
      have k0 : (0 : Int) ≤ (k : Int) := Int.natCast_nonneg _
      have k1 : (k : Int) < (l.length : Int) := by omega
      clear hx h1 h2 h3 hcell
      have hE : ∀ (W : World), (binOp .eql 32 (.agg #[i64 q.key.id.r, i64 q.key.id.s, i64 q.key.ord, .bool q.key.undo, i64 q.what.kind, i64 q.what.a, i64 q.what.n, i64 q.what.ref.r, i64 q.what.ref.s]) (.agg #[i64 x.key.id.r, i64 x.key.id.s, i64 x.key.ord, .bool x.key.undo, i64 x.what.kind, i64 x.what.a, i64 x.what.n, i64 x.what.ref.r, i64 x.what.ref.s])).run Try.prog W = .ok (.bool (decide (q = x))) W := fun W => by rw [run_eql_struct]; exact congrArg (fun r => Result.andThen r _) (eqReq 9996 q x W)
      have hd : l.drop k = x :: l.drop (k + 1) := drop_at HX.out
      have HD := Lib.hid hd
      clear hd
      by_cases hqx : q = x
      · have hqd : decide (q = x) = true := decide_eq_true hqx
        have HQX := Lib.hid hqx
        clear hqx
        have hres : indexGo q l 0 = k := by rw [H1.out, HD.out, indexGo, if_pos HQX.out]
        have HRES := Lib.hid hres
        clear hres
        go_wp2
        go_quiet (fail)
        go_wp2
        go_ret
        exact ⟨by rw [HRES.out]; rfl, below_drewN H2.out _⟩
      · have hqd : decide (q = x) = false := decide_eq_false hqx
        have HQX := Lib.hid hqx
        clear hqx
        have hres : indexGo q l 0 = indexGo q (l.drop (k + 1)) ((k + 1 : Nat) : Int) := by rw [H1.out, HD.out, indexGo, if_neg HQX.out]; rfl
        have HRES := Lib.hid hres
        clear hres
        go_wp2
        go_quiet (fail)
        go_wp2
        go_roundw
        case rel => exact ⟨k + 1, by omega, by go_num, HRES.out, below_drewN H2.out _, H3.out⟩
        case measure => simp [intOf]; omega
    · have hk' : k = l.length := by omega
      subst hk'
      obtain ⟨h1, h2, h3⟩ := hinv
      have hres : indexGo q l 0 = -1 := by rw [h1]; simp [indexGo]
      have HRES := Lib.hid hres
      have H2 := Lib.hid h2
      clear hres h1 h2 h3
      go_wp2
      go_ret
      exact ⟨by rw [HRES.out]; rfl, H2.out⟩

theorem contains_calls (A : Option Addr) (c : Nat) (l : List GReq) (q : GReq) (w : World) (hr : RowAt cReq 9 w A l) :
    Calls Try.prog 19 #[.slice A l.length c, eReq q] w (cellsEnd (.bool (decide (0 ≤ indexGo q l 0))) w) := by
  have HR := Lib.hid hr
  clear hr
  show Calls Try.prog 19 #[.slice A l.length c, .agg #[i64 q.key.id.r, i64 q.key.id.s, i64 q.key.ord, .bool q.key.undo, i64 q.what.kind, i64 q.what.a, i64 q.what.n, i64 q.what.ref.r, i64 q.what.ref.s]] w _
  go_enter Try.func19, Try.ntmps19
  go_wp2_with (go_at_call 25; refine (index_calls A c l q _ (HR.out.below ((Below.refl _ _).alloc (Nat.le_refl _) _))).mono ?_; rintro e w1 ⟨rfl, hb⟩)
  go_ret
  exact ⟨rfl, below_call ((Below.refl _ _).alloc (Nat.le_refl _) _) hb⟩
end Go.Proofs.Yteddfmhlnahdjaa
