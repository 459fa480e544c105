/- The arguments opened: a slice of requests, a slice of what was sent, a config, a key. -/
import Derived.Test.YteddfmhlnahdjaaSpaced
import Derived.Deep.Slices
import Derived.Deep.Strs
import Derived.Lib.SmallJoins
import Derived.ProofKit
import Derived.OpenShut
import Derived.ChangeOld
import Derived.Below
namespace Go.Proofs.Yteddfmhlnahdjaa
open Go Go.RowKit Go.ChangeShapes Go.WideShapes Go.ChangeAt Go.Deep
open Go.Joins (trod_struct4)

variable {H : Type} {enc : TypeId × Value → H} {w : World} {base : Nat} {spare : Nat → Bool} {held : Bool} {fuel : Nat} {cs : List Value} {x : DataW H × List MemPlace}

theorem cells2 : Try.prog.cellsOf 2 = 1 := by kernel_rfl
theorem cells3 : Try.prog.cellsOf 3 = 1 := by kernel_rfl
theorem cells4 : Try.prog.cellsOf 4 = 1 := by kernel_rfl
theorem cells26 : Try.prog.cellsOf 26 = 2 := by kernel_rfl
theorem cells28 : Try.prog.cellsOf 28 = 4 := by kernel_rfl
theorem cells30 : Try.prog.cellsOf 30 = 5 := by kernel_rfl
theorem cells32 : Try.prog.cellsOf 32 = 9 := by kernel_rfl
theorem cells37 : Try.prog.cellsOf 37 = 5 := by kernel_rfl
theorem cells40 : Try.prog.cellsOf 40 = 11 := by kernel_rfl

theorem parted : ∀ (l : List Value) (a b : Nat), l.length = a + b → l = l.take a ++ (l.drop a).take b := fun l a b h => by
  rw [List.take_of_length_le (l := l.drop a) (by rw [List.length_drop]; omega), List.take_append_drop]

theorem open_id (h : DataW.trod enc Try.prog w base spare held fuel 26 cs = some x) : ∃ k : GId, cs = cId k := by
  obtain ⟨y0, y1, n, _, hl, h0, h1⟩ := trod_struct2 Try.underlying26 h
  obtain ⟨a, ha, _⟩ := DataW.trod_int Try.underlying3 h0
  obtain ⟨b, hb, _⟩ := DataW.trod_int Try.underlying3 h1
  rw [cells26] at hl
  simp only [cells3, List.drop_zero] at ha hb
  refine ⟨⟨a, b⟩, ?_⟩
  rw [parted cs 1 1 hl, ha, hb]; rfl
theorem open_key (h : DataW.trod enc Try.prog w base spare held fuel 28 cs = some x) : ∃ k : GKey, cs = cKey k := by
  obtain ⟨y0, y1, y2, n, _, hl, h0, h1, h2⟩ := trod_struct3 Try.underlying28 h
  obtain ⟨k, hk⟩ := open_id h0
  obtain ⟨a, ha, _⟩ := DataW.trod_int Try.underlying3 h1
  obtain ⟨b, hb, _⟩ := DataW.trod_bool Try.underlying4 h2
  rw [cells28] at hl
  simp only [cells3, cells4, cells26, List.drop_zero] at hk ha hb
  refine ⟨⟨k, a, b⟩, ?_⟩
  rw [parted cs 2 2 hl, hk, parted ((cs.drop 2).take 2) 1 1 (by simp; omega), List.take_take, List.drop_take, List.drop_drop, List.take_take]
  simp only [Nat.min_def]
  simp only [Nat.reduceLeDiff, if_true, Nat.reduceAdd, Nat.reduceSub, Nat.le_refl]
  rw [ha, hb]; rfl
theorem open_eff (h : DataW.trod enc Try.prog w base spare held fuel 30 cs = some x) : ∃ k : GEff, cs = cEff k := by
  obtain ⟨y0, y1, y2, y3, n, _, hl, h0, h1, h2, h3⟩ := trod_struct4 Try.underlying30 h
  obtain ⟨a, ha, _⟩ := DataW.trod_int Try.underlying3 h0
  obtain ⟨b, hb, _⟩ := DataW.trod_int Try.underlying3 h1
  obtain ⟨c, hc, _⟩ := DataW.trod_int Try.underlying2 h2
  obtain ⟨k, hk⟩ := open_id h3
  rw [cells30] at hl
  simp only [cells3, cells2, cells26, List.drop_zero] at hk ha hb hc
  refine ⟨⟨a, b, c, k⟩, ?_⟩
  match cs, hl with
  | [u0, u1, u2, u3, u4], _ =>
    simp only [List.drop_succ_cons, List.drop_zero, List.take_succ_cons, List.take_zero, List.cons.injEq, and_true, cId] at ha hb hc hk
    obtain ⟨h3, h4⟩ := hk
    rw [ha, hb, hc, h3, h4]; rfl
theorem open_req (h : DataW.trod enc Try.prog w base spare held fuel 32 cs = some x) : ∃ k : GReq, cs = cReq k := by
  obtain ⟨y0, y1, n, _, hl, h0, h1⟩ := trod_struct2 Try.underlying32 h
  obtain ⟨k, hk⟩ := open_key h0
  obtain ⟨e, he⟩ := open_eff h1
  rw [cells32] at hl
  simp only [cells28, cells30, List.drop_zero] at hk he
  refine ⟨⟨k, e⟩, ?_⟩
  rw [parted cs 4 5 hl, hk, he]; rfl
theorem open_sent (h : DataW.trod enc Try.prog w base spare held fuel 40 cs = some x) : ∃ k : GSent, cs = cSent k := by
  obtain ⟨y0, y1, y2, y3, n, _, hl, h0, h1, h2, h3⟩ := trod_struct4 Try.underlying40 h
  obtain ⟨a, ha, _⟩ := DataW.trod_int Try.underlying3 h0
  obtain ⟨b, hb, _⟩ := DataW.trod_int Try.underlying3 h1
  obtain ⟨k, hk⟩ := open_key h2
  obtain ⟨e, he⟩ := open_eff h3
  rw [cells40] at hl
  simp only [cells3, cells28, cells30, List.drop_zero] at ha hb hk he
  refine ⟨⟨a, b, k, e⟩, ?_⟩
  match cs, hl with
  | [u0, u1, u2, u3, u4, u5, u6, u7, u8, u9, u10], _ =>
    simp only [List.drop_succ_cons, List.drop_zero, List.take_succ_cons, List.take_zero, List.cons.injEq, and_true, cKey, cEff] at ha hb hk he
    obtain ⟨k0, k1, k2, k3⟩ := hk
    obtain ⟨e0, e1, e2, e3, e4⟩ := he
    rw [ha, hb, k0, k1, k2, k3, e0, e1, e2, e3, e4]; rfl
theorem open_cfg (h : DataW.trod enc Try.prog w base spare held fuel 37 cs = some x) : ∃ g : GCfg, cs = [.int .i64 g.rep, .int .i64 g.sec, .int .i64 g.most, .int .i64 g.base, .int .i64 g.cap] := by
  obtain ⟨xs, n, _, _, hl, hlen, hf⟩ := DataW.trod_struct Try.underlying37 h
  match xs, hlen with
  | [y0, y1, y2, y3, y4], _ =>
    obtain ⟨a, ha, _⟩ := DataW.trod_int Try.underlying3 (hf 0 ⟨"Replicas", 3, 0, false, "", "", 0⟩ rfl)
    obtain ⟨b, hb, _⟩ := DataW.trod_int Try.underlying3 (hf 1 ⟨"Sectors", 3, 1, false, "", "", 8⟩ rfl)
    obtain ⟨c, hc, _⟩ := DataW.trod_int Try.underlying3 (hf 2 ⟨"Most", 3, 2, false, "", "", 16⟩ rfl)
    obtain ⟨d, hd, _⟩ := DataW.trod_int Try.underlying3 (hf 3 ⟨"Base", 3, 3, false, "", "", 24⟩ rfl)
    obtain ⟨e, he, _⟩ := DataW.trod_int Try.underlying3 (hf 4 ⟨"Cap", 3, 4, false, "", "", 32⟩ rfl)
    rw [cells37] at hl
    simp only [cells3] at ha hb hc hd he
    refine ⟨⟨a, b, c, d, e⟩, ?_⟩
    match cs, hl with
    | [u0, u1, u2, u3, u4], _ =>
      simp only [List.drop_succ_cons, List.drop_zero, List.take_succ_cons, List.take_zero, List.cons.injEq, and_true] at ha hb hc hd he
      rw [ha, hb, hc, hd, he]

/-- a slice of structs, opened: a list, lying as RowAt says -/
theorem open_row {α : Type} [Inhabited α] {c : α → List Value} {sz : Nat} {t e : TypeId} (ht : Try.prog.underlying t = some (.slice e)) (hsz : Try.prog.cellsOf e = sz)
    (hel : ∀ {n : Nat} {cs' : List Value} {y : DataW H × List MemPlace}, DataW.trod enc Try.prog w 0 (fun _ => true) true n e cs' = some y → ∃ k : α, cs' = c k)
    (h : DataW.trod enc Try.prog w 0 (fun _ => true) true fuel t cs = some x) : ∃ (A : Option Addr) (len cap : Nat) (l : List α), cs = [.slice A len cap] ∧ l.length = len ∧ len ≤ cap ∧ RowAt c sz w A l := by
  rcases open_slice ht h with ⟨rfl, _⟩ | ⟨a, len, cap, m, n, D, Pl, rfl, _, hl, hm, hmm, _, hx⟩
  · exact ⟨none, 0, 0, [], rfl, rfl, Nat.le_refl _, by simp, fun i x hi => by simp at hi⟩
  · have hm' : m = cap := by rw [hmm]; rfl
    obtain ⟨V, hV⟩ := choose_lt (α := α) (n := len) (p := fun i v => w.cells? 0 (a.add (i * Try.prog.cellsOf e)) (Try.prog.cellsOf e) = some (c v)) (fun i hi => by
      obtain ⟨cs', h1, h2⟩ := hx i (by omega)
      obtain ⟨k, rfl⟩ := hel h2
      exact ⟨k, h1⟩)
    refine ⟨some a, len, cap, (List.range len).map V, rfl, by simp, hl, ?_, fun i x hi => ⟨a, rfl, fun j v hv => ?_⟩⟩
    · have : maxLen ≤ 9223372036854775807 := by unfold maxLen; omega
      simp; omega
    · have hil : i < len := by have := (List.getElem?_eq_some_iff.1 hi).1; simpa using this
      have hxi : x = V i := by
        rw [List.getElem?_map, List.getElem?_range hil] at hi
        simpa using hi.symm
      subst hxi
      have := hV i hil
      rw [hsz] at this
      obtain ⟨_, hlen, hg⟩ := World.cells?_some this
      have hj : j < sz := by have := (List.getElem?_eq_some_iff.1 hv).1; omega
      rw [hg j hj]; exact hv
end Go.Proofs.Yteddfmhlnahdjaa
