/- Laws at single operations for the walks: a load of a struct, a map's look-up, store and delete. Each under the facts that it names. -/
import Derived.Test.YteddfmhlnahdjaaBase
namespace Go.Proofs.Yteddfmhlnahdjaa
open Go Go.RowKit

section
variable {P : Program} {w : World} {ops : Array Oper} {rest : List Oper} {o : Oper} {a : Act} {Q : Exit → Act → World → Prop}

theorem run_loadVar_at {t : TypeId} {fs : Array Field} (hu : P.underlying t = some (.struct fs)) {n : Nat} (hs : (P.info? t).map (·.size) = some n) {ad : Addr} {cs : List Value} (hl : cs.length = n)
    (hc : ∀ j v, cs[j]? = some v → w.cell? (ad.add j) = some v) : (loadVar t ad).run P w = .ok (.agg cs.toArray) w := by
  cases hi : P.info? t with
  | none => simp [hi] at hs
  | some i =>
    simp [hi] at hs
    have h := run_loadCells_list (P := P) w ad cs hc
    rw [hl] at h
    simp [loadVar, isAgg, run_underlying hu, sizeOf, typeInfo, hi, hs, h]

theorem wpList_load_at (hg : o.guard = none) (t : TypeId) (x : Operand) (hop : o.op = .load t x) {ad : Addr} (hx : a.eval x = .pointer (some ad)) {fs : Array Field} (hu : P.underlying t = some (.struct fs)) {n : Nat} (hs : (P.info? t).map (·.size) = some n)
    {cs : List Value} (hl : cs.length = n) (hc : ∀ j v, cs[j]? = some v → w.cell? (ad.add j) = some v)
    (hK : wpList P ops Q rest (a.put o.dst (.agg cs.toArray)) w) : wpList P ops Q (o :: rest) a w := by
  refine wpList_plain hg fun K' hK' => ?_
  unfold Oper.wp
  simp [execOp, hop, hx, Instr.loadAt, Instr.sureAddr, run_loadVar_at hu hs hl hc, Result.andThen]
  exact hK' _ _ hK

theorem wpList_lookup_m (hg : o.guard = none) (t : TypeId) (m x : Operand) (c : Bool) (hop : o.op = .lookup t m x c) {v : Value} (hrun : (Instr.lookup t (a.eval m) (a.eval x) c).run P w = .ok v w)
    (hK : wpList P ops Q rest (a.put o.dst v) w) : wpList P ops Q (o :: rest) a w := by
  refine wpList_plain hg fun K' hK' => ?_
  unfold Oper.wp
  simp [execOp, hop, hrun, Result.andThen]
  exact hK' _ _ hK
theorem wpList_update_m (hg : o.guard = none) (t : TypeId) (m x v : Operand) (hop : o.op = .mapUpdate t m x v) {R : World → Prop} (hrun : ∃ w', (Instr.mapUpdate t (a.eval m) (a.eval x) (a.eval v)).run P w = .ok () w' ∧ R w')
    (hK : ∀ w', R w' → wpList P ops Q rest (a.put o.dst undef) w') : wpList P ops Q (o :: rest) a w := by
  refine wpList_plain hg fun K' hK' => ?_
  obtain ⟨w', h1, h2⟩ := hrun
  unfold Oper.wp
  simp [execOp, hop, h1, Result.andThen]
  exact hK' _ _ (hK _ h2)
end

theorem mapAt_grown {κ : Type} {w w' : World} {enc : κ → Value} {b : Nat} {m : List (κ × Value)} (h : World.mapAt w enc b m) {row : Option Nat} (hg : w.grownBy w' row) (hne : some b ≠ row) : World.mapAt w' enc b m := by
  obtain ⟨es, clock, hb, he⟩ := h
  exact ⟨es, clock, (hg.block b (Array.getElem?_eq_some_iff.1 hb).1 hne).trans hb, he⟩
theorem mapAt_alloc {κ : Type} {w : World} {enc : κ → Value} {b : Nat} {m : List (κ × Value)} (h : World.mapAt w enc b m) (o : Obj) : World.mapAt (w.alloc o) enc b m :=
  mapAt_grown h (World.grownBy_alloc w o none) (by simp)
theorem mapAt_made {κ : Type} (w : World) (enc : κ → Value) : World.mapAt (w.alloc (.map #[] 0)) enc w.heap.size [] :=
  ⟨#[], 0, heap_alloc_new w _, rfl⟩

/-- a slice's elements: element i lies at ad + i * sz, as the cells c x -/
def RowAt {α : Type} (c : α → List Value) (sz : Nat) (w : World) (A : Option Addr) (l : List α) : Prop :=
  l.length ≤ 9223372036854775807 ∧ ∀ i x, l[i]? = some x → ∃ ad, A = some ad ∧ ∀ j v, (c x)[j]? = some v → w.cell? ((ad.add (i * sz)).add j) = some v
theorem RowAt.below {α : Type} {c : α → List Value} {sz : Nat} {w w' : World} {A : Option Addr} {l : List α} (h : RowAt c sz w A l) (hb : Below w.heap.size w w') : RowAt c sz w' A l := by
  refine ⟨h.1, fun i x hx => ?_⟩
  obtain ⟨ad, ha, hc⟩ := h.2 i x hx
  exact ⟨ad, ha, fun j v hv => (hb.cell (World.block_lt_of_cell? w _ (hc j v hv))).trans (hc j v hv)⟩
end Go.Proofs.Yteddfmhlnahdjaa
