/- audit.keys: what it returns, and that it is an iterator over the keys, each once. -/
import Derived.Test.YteddfmhlnahdjaaKeys
import Derived.RangeFuncKeeps
import Derived.RangeFuncNested
namespace Go.Proofs.Yteddfmhlnahdjaa
open Go Go.RowKit Go.Shelf

def KeysPost (A : Option Addr) (n c : Nat) (w : World) (e : Ending) (w' : World) : Prop :=
  e = .returned (.func (.func 26) #[] #[.pointer (some ⟨w.heap.size, 0, none⟩)]) ∧ w' = w.alloc (.cells #[.slice A n c] 35 (0, 0))

theorem keys_calls (A : Option Addr) (n c : Nat) (w : World) : Calls Try.prog 23 #[.slice A n c] w (KeysPost A n c w) := by
  go_enter Try.func23, Try.ntmps23
  go_wp2
  go_ret
  exact ⟨rfl, rfl⟩

theorem kp_t {n0 : Nat} {A B C : World} (h : Kp n0 A B) (k : Kp n0 B C) : Kp n0 A C := ⟨walksK_t h.1 k.1, belowK_t h.2 k.2⟩
theorem kp_b {n0 : Nat} {w : World} (hn : n0 ≤ w.heap.size) (W : World) (l : Nat) (o o' : Obj) (hl : w.heap.size ≤ l) (h : W.heap[l]? = some o) (hc : o.isCells = false) (hw : o.isWalk = false) : Kp n0 W (W.putObj l o') :=
  ⟨walksK_b W l o o' hl h hc hw, belowK_b hn W l o o' hl h hc hw⟩

theorem keys_seq (n : Nat) (hn : 3 ≤ n) (bx : Nat) (A : Option Addr) (c : Nat) (l : List GSent) (w0 w : World) (hr : RowAt cSent 11 w0 A l) (hl : l.length ≤ 1000)
    (hb : Below w0.heap.size w0 w) (hbx : w.heap[bx]? = some (.cells #[.slice A l.length c] 35 (0, 0))) :
    SeqStopsK Fence.wide n Try.prog 26 #[.pointer (some ⟨bx, 0, none⟩)] (fun k => #[eKey k]) (Kp w0.heap.size) (fun ys => ys = keysGo [] l) (fun pre => pre <+: keysGo [] l) l.length w := by
  intro lp J Jx W hW hJ _ hY h0
  have hlt : bx < w.heap.size := (Array.getElem?_eq_some_iff.1 hbx).1
  exact keys1_in n hn lp bx A c l w0 hr hl J Jx W hJ hY (hb.trans (hW.mono hb.size)) ((hW.block bx hlt).trans hbx) h0
end Go.Proofs.Yteddfmhlnahdjaa
