/- What was sent, as a Lean structure and in cells; the walk of audit.Tries: for every list of at most 1000 that can be read. -/
import Derived.Test.YteddfmhlnahdjaaIndex
import Derived.OwnWalk
import Derived.Deep.AppendLies
namespace Go.Proofs.Yteddfmhlnahdjaa
open Go Go.RowKit

structure GSent where
  rep : Int
  now : Int
  key : GKey
  what : GEff
  deriving DecidableEq
def cSent (x : GSent) : List Value := [i64 x.rep, i64 x.now] ++ cKey x.key ++ cEff x.what
structure SentAt (w : World) (p : Addr) (q : GSent) : Prop where
  c0 : w.cell? p = some (.int .i64 q.rep)
  c1 : w.cell? ⟨p.block, p.off + 1, none⟩ = some (.int .i64 q.now)
  c2 : w.cell? ⟨p.block, p.off + 2, none⟩ = some (.int .i64 q.key.id.r)
  c3 : w.cell? ⟨p.block, p.off + 3, none⟩ = some (.int .i64 q.key.id.s)
  c4 : w.cell? ⟨p.block, p.off + 4, none⟩ = some (.int .i64 q.key.ord)
  c5 : w.cell? ⟨p.block, p.off + 5, none⟩ = some (.bool q.key.undo)
  c6 : w.cell? ⟨p.block, p.off + 6, none⟩ = some (.int .i64 q.what.kind)
  c7 : w.cell? ⟨p.block, p.off + 7, none⟩ = some (.int .i64 q.what.a)
  c8 : w.cell? ⟨p.block, p.off + 8, none⟩ = some (.int .i64 q.what.n)
  c9 : w.cell? ⟨p.block, p.off + 9, none⟩ = some (.int .i64 q.what.ref.r)
  c10 : w.cell? ⟨p.block, p.off + 10, none⟩ = some (.int .i64 q.what.ref.s)
theorem SentAt.of {w : World} {p : Addr} {q : GSent} (h : ∀ j v, (cSent q)[j]? = some v → w.cell? (p.add j) = some v) : SentAt w p q :=
  ⟨by simpa [Addr.add] using h 0 _ rfl, by simpa [Addr.add] using h 1 _ rfl, by simpa [Addr.add] using h 2 _ rfl, by simpa [Addr.add] using h 3 _ rfl, by simpa [Addr.add] using h 4 _ rfl,
   by simpa [Addr.add] using h 5 _ rfl, by simpa [Addr.add] using h 6 _ rfl, by simpa [Addr.add] using h 7 _ rfl, by simpa [Addr.add] using h 8 _ rfl, by simpa [Addr.add] using h 9 _ rfl, by simpa [Addr.add] using h 10 _ rfl⟩
theorem SentAt.below {n : Nat} {w w' : World} {p : Addr} {q : GSent} (h : SentAt w p q) (hp : p.block < n) (hb : Below n w w') : SentAt w' p q :=
  ⟨(hb.cell (p := p) hp).trans h.c0, (hb.cell (p := ⟨p.block, _, none⟩) hp).trans h.c1, (hb.cell (p := ⟨p.block, _, none⟩) hp).trans h.c2, (hb.cell (p := ⟨p.block, _, none⟩) hp).trans h.c3, (hb.cell (p := ⟨p.block, _, none⟩) hp).trans h.c4,
   (hb.cell (p := ⟨p.block, _, none⟩) hp).trans h.c5, (hb.cell (p := ⟨p.block, _, none⟩) hp).trans h.c6, (hb.cell (p := ⟨p.block, _, none⟩) hp).trans h.c7, (hb.cell (p := ⟨p.block, _, none⟩) hp).trans h.c8, (hb.cell (p := ⟨p.block, _, none⟩) hp).trans h.c9, (hb.cell (p := ⟨p.block, _, none⟩) hp).trans h.c10⟩

def tries (l : List GSent) (k : GKey) : List Int := (l.filter fun x => decide (x.key = k)).map (·.now)
theorem tries_snoc (l : List GSent) (x : GSent) (k : GKey) : tries (l ++ [x]) k = if x.key = k then tries l k ++ [x.now] else tries l k := by
  unfold tries
  by_cases h : x.key = k <;> simp [h]
theorem tries_len (l : List GSent) (k : GKey) : (tries l k).length ≤ l.length := by
  unfold tries
  rw [List.length_map]
  exact List.length_filter_le _ _
theorem take_snoc {α : Type} {l : List α} {k : Nat} {x : α} (h : l[k]? = some x) : l.take (k + 1) = l.take k ++ [x] := by
  obtain ⟨hk, rfl⟩ := List.getElem?_eq_some_iff.1 h
  exact List.take_succ_eq_append_getElem hk
def ints (l : List Int) : List Value := l.map (Value.int .i64)
def TriesPost (l : List GSent) (k : GKey) (w : World) (e : Ending) (w' : World) : Prop :=
  ∃ v, e = .returned v ∧ w'.ownsRow w.heap.size 3 1 v (tries l k).length (ints (tries l k)) ∧ Below w.heap.size w w'
def KeyBox (w : World) (b : Nat) (k : GKey) : Prop := w.heap[b]? = some (.cells #[i64 k.id.r, i64 k.id.s, i64 k.ord, .bool k.undo] 28 (0, 0))
def TriesInv (l : List GSent) (key : GKey) (w : World) (k : Nat) (v : Value) (wr : World) : Prop :=
  wr.ownsRow (w.heap.size + 1) 3 1 v (tries (l.take k) key).length (ints (tries (l.take k) key)) ∧ Below w.heap.size w wr ∧ KeyBox wr w.heap.size key
theorem info3 : (Try.prog.info? 3).map (fun i => (i.zero, i.size, i.bytes)) = some (some (.int .i64 0), 1, 8) := by kernel_rfl
theorem KeyBox.cells {w : World} {b : Nat} {k : GKey} (h : KeyBox w b k) : w.cell? ⟨b, 0, none⟩ = some (.int .i64 k.id.r) ∧ w.cell? ⟨b, 1, none⟩ = some (.int .i64 k.id.s) ∧ w.cell? ⟨b, 2, none⟩ = some (.int .i64 k.ord) ∧ w.cell? ⟨b, 3, none⟩ = some (.bool k.undo) := by
  refine ⟨?_, ?_, ?_, ?_⟩ <;> simp [World.cell?, show w.heap[b]? = _ from h]
theorem KeyBox.grown {w w' : World} {b : Nat} {k : GKey} {row : Option Nat} (h : KeyBox w b k) (hg : w.grownBy w' row) (hne : some b ≠ row) : KeyBox w' b k := (hg.block b (Array.getElem?_eq_some_iff.1 h).1 hne).trans h
theorem KeyBox.alloc {w : World} {b : Nat} {k : GKey} (h : KeyBox w b k) (o : Obj) : KeyBox (w.alloc o) b k := h.grown (World.grownBy_alloc w o none) (by simp)

theorem own_weak {w : World} {base base' : Nat} {e : TypeId} {size n : Nat} {v : Value} {xs : List Value} (h : w.ownsRow base e size v n xs) (hb : base' ≤ base) : w.ownsRow base' e size v n xs := by
  refine ⟨h.1, h.2.imp (fun h => h) ?_⟩
  rintro ⟨g, cap, cur, h1, h2, h3⟩
  exact ⟨g, cap, cur, h1, Nat.le_trans hb h2, h3⟩
theorem heap_new2 (w : World) (o1 o2 : Obj) : ((w.alloc o1).alloc o2).heap[w.heap.size + 1]? = some o2 := by
  have := heap_alloc_new (w.alloc o1) o2
  rwa [World.size_alloc] at this

theorem tries_calls (A : Option Addr) (c : Nat) (l : List GSent) (key : GKey) (w : World) (hr : RowAt cSent 11 w A l) (hl : l.length ≤ 1000) :
    Calls Try.prog 15 #[.slice A l.length c, eKey key] w (TriesPost l key w) := by
  have HR := Lib.hid hr
  clear hr
  obtain ⟨i0, hi, hz0, hz1, hz2⟩ := info_parts info3
  have HI := Lib.hid hi
  have HZ0 := Lib.hid hz0
  have HZ1 := Lib.hid hz1
  have HZ2 := Lib.hid hz2
  clear hi hz0 hz1 hz2
  obtain ⟨⟨kr, ks⟩, ko, ku⟩ := key
  show Calls Try.prog 15 #[.slice A l.length c, .agg #[.int .i64 kr, .int .i64 ks, .int .i64 ko, .bool ku]] w _
  go_enter Try.func15, Try.ntmps15
  go_wp2
  go_loopw [5, 10] (fun v i wr => ∃ k : Nat, k ≤ l.length ∧ i = .int .i64 k ∧ Hid (TriesInv l ⟨⟨kr, ks⟩, ko, ku⟩ w k v wr)) (fun _ i _ => l.length - (intOf i).toNat)
  case atStart => exact ⟨0, Nat.zero_le _, rfl, World.ownsRow_nil _ _ _ _, (Below.refl _ _).alloc (Nat.le_refl _) _, heap_alloc_new w _⟩
  case round =>
    obtain ⟨k, hk, rfl, hinv⟩ := hrel
    obtain ⟨h1, h2, h3⟩ := hinv
    by_cases hlt : k < l.length
    · obtain ⟨x, hx⟩ : ∃ x, l[k]? = some x := ⟨l[k], by simp [hlt]⟩
      have hts := take_snoc hx
      obtain ⟨sr, sn, ⟨⟨xr, xs⟩, xo, xu⟩, ⟨xk, xa, xn, ⟨xy, xz⟩⟩⟩ := x
      obtain ⟨ad, rfl, hcell⟩ := HR.out.2 k _ hx
      have hS := SentAt.of hcell
      obtain ⟨c0, c1, c2, c3, c4, c5, c6, c7, c8, c9, c10⟩ := hS.below (World.block_lt_of_cell? w _ hS.c0) h2
      obtain ⟨d0, d1, d2, d3⟩ := h3.cells
      dsimp only at c0 c1 c2 c3 c4 c5 c6 c7 c8 c9 c10 d0 d1 d2 d3
      have H1 := Lib.hid h1
      have H2 := Lib.hid h2
      have H3 := Lib.hid h3
      have HTS := Lib.hid hts
      have k0 : (0 : Int) ≤ (k : Int) := Int.natCast_nonneg _
      have k1 : (k : Int) < (l.length : Int) := by omega
      have hws : w.heap.size < wr.heap.size := (Array.getElem?_eq_some_iff.1 H3.out).1
      have hN : ∀ (b : Bool), decide ((⟨⟨xr, xs⟩, xo, xu⟩ : GKey) = ⟨⟨kr, ks⟩, ko, ku⟩) = b → ∀ (W : World), (binOp .eql 28 (.agg #[.int .i64 xr, .int .i64 xs, .int .i64 xo, .bool xu]) (.agg #[.int .i64 kr, .int .i64 ks, .int .i64 ko, .bool ku])).run Try.prog W = .ok (.bool b) W := fun b hb W => by
        rw [run_eql_struct, ← hb]; exact congrArg (fun r => Result.andThen r _) (eqKey 9997 ⟨⟨xr, xs⟩, xo, xu⟩ ⟨⟨kr, ks⟩, ko, ku⟩ W)
      have HN := Lib.hid hN
      clear hx h1 h2 h3 hcell hS hts hN
      by_cases hkk : (⟨⟨xr, xs⟩, xo, xu⟩ : GKey) = ⟨⟨kr, ks⟩, ko, ku⟩
      · have hN := HN.out true (decide_eq_true hkk)
        have hnew : tries (l.take (k + 1)) ⟨⟨kr, ks⟩, ko, ku⟩ = tries (l.take k) ⟨⟨kr, ks⟩, ko, ku⟩ ++ [sn] := by rw [HTS.out, tries_snoc, if_pos hkk]
        have hlen : (tries (l.take k) ⟨⟨kr, ks⟩, ko, ku⟩).length ≤ k := Nat.le_trans (tries_len _ _) (by simp; omega)
        have HNEW := Lib.hid hnew
        clear hkk hnew
        go_wp2_with (at_builtin; refine wpList_append_lies _ (by rfl) _ _ _ (by rfl) (w.heap.size + 1) 3 i0 _ 1 8 Try.underlying38 HI.out HZ0.out HZ1.out HZ2.out rfl (by decide) u5 _ _ (by rfl) (by exact ((H1.out.alloc _).alloc _)) ⟨wr.heap.size + 1, 0, none⟩ 1 1 [i64 sn] (by rfl) (by rfl) (by exact World.news_of_block (cs := #[i64 sn]) (t := 3) (fr := (0, 0)) (heap_new2 wr _ _)) (by simp [Value.oneCell']) (by decide) (by unfold maxLen; omega) (by omega) (by have := H2.out.size; simp; omega) (wr.heap.size + 2) (by simp) ?_; intro g cap w1 hown1 hgrow hat hlt1)
        have hg := ((World.grownBy_alloc wr _ _).trans (World.grownBy_alloc _ _ _)).trans hgrow
        have hlow : ∀ j, u5.ownBlock = some j → w.heap.size + 1 ≤ j := fun j hj => (H1.out.lt j hj).1
        have hbw := H2.out.grown hg H2.out.size (fun j hj => Nat.le_trans (Nat.le_succ _) (hlow j hj))
        have hbox := H3.out.grown hg (fun e => by have := hlow _ e.symm; omega)
        have HG := Lib.hid (And.intro hbw hbox)
        have HO1 := Lib.hid hown1
        clear hg hlow hbw hbox hown1 hgrow hat hlt1
        go_wp2
        go_roundw
        case rel => exact ⟨k + 1, by omega, by go_num, by rw [HNEW.out]; simpa [ints] using HO1.out, HG.out.1, HG.out.2⟩
        case measure => simp [intOf]; omega
      · have hN := HN.out false (decide_eq_false hkk)
        have hnew : tries (l.take (k + 1)) ⟨⟨kr, ks⟩, ko, ku⟩ = tries (l.take k) ⟨⟨kr, ks⟩, ko, ku⟩ := by rw [HTS.out, tries_snoc, if_neg hkk]
        have HNEW := Lib.hid hnew
        clear hkk hnew
        go_wp2
        go_roundw
        case rel => exact ⟨k + 1, by omega, by go_num, by rw [HNEW.out]; exact H1.out.alloc _, H2.out.alloc H2.out.size _, H3.out.alloc _⟩
        case measure => simp [intOf]; omega
    · have hk' : k = l.length := by omega
      subst hk'
      rw [List.take_length] at h1
      have H1 := Lib.hid h1
      have H2 := Lib.hid h2
      clear h1 h2 h3
      go_wp2
      go_ret
      exact ⟨_, rfl, own_weak H1.out (by omega), H2.out⟩
end Go.Proofs.Yteddfmhlnahdjaa
