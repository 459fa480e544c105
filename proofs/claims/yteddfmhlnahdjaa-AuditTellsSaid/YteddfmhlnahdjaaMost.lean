/- audit.Most: the walk. -/
import Derived.Test.YteddfmhlnahdjaaSeq
import Derived.Test.YteddfmhlnahdjaaRange
import Derived.Shelf.RegionOpen
import Derived.Lib.MinMax
import Derived.WalkKit
namespace Go.Proofs.Yteddfmhlnahdjaa
open Go Go.RowKit Go.Shelf
attribute [local go_sem] Oper.semAt_some

def mostP (l : List GSent) (ks : List GKey) : Int := ks.foldl (fun m k => max m ((tries l k).length : Int)) 0
theorem mostP_snoc (l : List GSent) (pre : List GKey) (x : GKey) : mostP l (pre ++ [x]) = max (mostP l pre) ((tries l x).length : Int) := by simp [mostP]
theorem mostP_range (l : List GSent) : ∀ (ks : List GKey), 0 ≤ mostP l ks := by
  suffices h : ∀ (ks : List GKey) (m : Int), 0 ≤ m → 0 ≤ ks.foldl (fun m k => max m ((tries l k).length : Int)) m from fun ks => h ks 0 (Int.le_refl _)
  intro ks
  induction ks with
  | nil => exact fun _ h => h
  | cons x r ih => exact fun m h => ih _ (Int.le_trans h (Int.le_max_left _ _))

theorem others_of_below {W w1 : World} (h : Below W.heap.size W w1) : KeepsOthers W w1 :=
  ⟨h.size, fun k _ hk _ => (h.block k (Array.getElem?_eq_some_iff.1 hk).1).trans hk⟩
theorem kp_of_below {n0 : Nat} {W w1 : World} (h : Below W.heap.size W w1) (hn : n0 ≤ W.heap.size) : Kp n0 W w1 := ⟨(others_of_below h).walks, h.mono hn⟩
theorem own_slice {w : World} {base : Nat} {e : TypeId} {size n : Nat} {v : Value} {xs : List Value} (h : w.ownsRow base e size v n xs) : ∃ A c, v = .slice A n c := by
  rcases h.2 with ⟨rfl, h2⟩ | ⟨g, cap, cur, rfl, h2, h3⟩
  · subst h2; exact ⟨_, _, rfl⟩
  · exact ⟨_, _, rfl⟩
theorem own_cells {W W' : World} {B : Nat} {row : Option Nat} (hg : W.grownBy W' row) (hr : ∀ r, row = some r → B ≤ r ∧ ∃ o : Obj, W.heap[r]? = some o ∧ o.isCells = false) {b : Nat} {vs : Array Value} {t : TypeId} {p : Nat × Nat}
    (h : W.heap[b]? = some (.cells vs t p)) : W'.heap[b]? = some (.cells vs t p) := by
  refine (hg.block b (Array.getElem?_eq_some_iff.1 h).1 ?_).trans h
  intro e
  obtain ⟨_, _, ho, hc⟩ := hr b e.symm
  rw [h] at ho
  cases ho
  cases hc
theorem own_below {W W' w : World} {B n0 : Nat} {row : Option Nat} (hg : W.grownBy W' row) (hr : ∀ r, row = some r → B ≤ r ∧ ∃ o : Obj, W.heap[r]? = some o ∧ o.isCells = false) (hB : n0 ≤ B) (hn : n0 ≤ w.heap.size) (h : Below n0 w W) : Below n0 w W' :=
  h.grown hg (Nat.le_trans hn h.size) (fun k e => Nat.le_trans hB (hr k e).1)

theorem set_one {W : World} {b : Nat} {v : Value} {t : TypeId} {p : Nat × Nat} (h : W.heap[b]? = some (.cells #[v] t p)) (u : Value) : (W.setCell ⟨b, 0, none⟩ u).heap[b]? = some (.cells #[u] t p) := by
  obtain ⟨hlt, hk⟩ := Array.getElem?_eq_some_iff.1 h
  show (W.heap.modify b _)[b]? = _
  rw [Array.getElem?_eq_getElem (by rw [Array.size_modify]; exact hlt), Array.getElem_modify_self, hk]
  simp

def MostI (A : Option Addr) (c : Nat) (l : List GSent) (w : World) (pre : List GKey) (W : World) : Prop :=
  Below w.heap.size w W ∧ W.heap[w.heap.size]? = some (.cells #[.slice A l.length c] 35 (0, 0)) ∧ W.heap[w.heap.size + 1]? = some (.cells #[.int .i64 (mostP l pre)] 3 (0, 0))
def MostMid (A : Option Addr) (c : Nat) (l : List GSent) (w : World) (s : List GKey × GKey × Act) (W : World) : Prop :=
  MostI A c l w s.1 W ∧ ∃ B, KeyBox W B s.2.1 ∧ w.heap.size + 1 < B ∧ s.2.2 = ⟨#[.slice A l.length c, .pointer (some ⟨w.heap.size, 0, none⟩), .int .i64 0, .pointer (some ⟨w.heap.size + 1, 0, none⟩), .pointer (some ⟨B, 0, none⟩), .slice A l.length c,
    .func (.func 26) #[] #[.pointer (some ⟨w.heap.size + 1 + 1, 0, none⟩)], eKey s.2.1, undef, undef, undef, undef, undef, undef, undef], []⟩
theorem MostI.own (A : Option Addr) (c : Nat) (l : List GSent) (w : World) (B : Nat) (hB : w.heap.size ≤ B) : OwnFrom B (MostI A c l w) := fun _ _ _ _ hs hg hr =>
  ⟨own_below hg hr hB (Nat.le_refl _) hs.1, own_cells hg hr hs.2.1, own_cells hg hr hs.2.2⟩
theorem MostMid.own (A : Option Addr) (c : Nat) (l : List GSent) (w : World) (B : Nat) (hB : w.heap.size ≤ B) : OwnFrom B (MostMid A c l w) := fun s _ _ _ hs hg hr => by
  obtain ⟨h1, b, h2, h3, h4⟩ := hs
  exact ⟨MostI.own A c l w B hB s.1 _ _ _ h1 hg hr, b, own_cells hg hr h2, h3, h4⟩

theorem most_calls (A : Option Addr) (c : Nat) (l : List GSent) (w : World) (hr : RowAt cSent 11 w A l) (hl : l.length ≤ 1000) :
    Calls Try.prog 17 #[.slice A l.length c] w (cellsEnd (.int .i64 (mostP l (keysGo [] l))) w) := by
  refine (callsIn_wide (n := 8)).1 ?_
  refine callsIn_of_wp_marks Try.func17 rfl trivial ?_ rfl
  simp only [Try.ntmps17, List.size_toArray, List.length_cons, List.length_nil, Nat.reduceAdd, Nat.reduceSub, Array.replicate_succ, Array.replicate_zero, List.push_toArray, List.append_toArray, List.nil_append, List.cons_append]
  gi_wp2_with (refine ⟨trivial, ?_⟩; gi_at_call 23; refine (callsIn_wide.2 (keys_calls A l.length c _)).mono ?_; rintro e w1 ⟨rfl, rfl⟩)
  have hwR : ∀ W : World, W = (((w.alloc (Obj.cells #[Value.slice A l.length c] 35)).alloc (Obj.cells #[Value.int IntKind.i64 0] 3)).alloc (Obj.cells #[Value.slice A l.length c] 35)) →
      Below w.heap.size w W ∧ W.heap.size = w.heap.size + 3 ∧ MostI A c l w [] W ∧ W.heap[w.heap.size + 1 + 1]? = some (.cells #[.slice A l.length c] 35 (0, 0)) := by
    rintro W rfl
    have hb : Below w.heap.size w (((w.alloc (Obj.cells #[Value.slice A l.length c] 35)).alloc (Obj.cells #[Value.int IntKind.i64 0] 3)).alloc (Obj.cells #[Value.slice A l.length c] 35)) := (((Below.refl _ w).alloc (Nat.le_refl _) _).alloc (by simp) _).alloc (by simp; omega) _
    refine ⟨hb, by simp, ⟨hb, ?_, ?_⟩, ?_⟩
    · rw [Below.heap_alloc _ _ _ (by simp; omega), Below.heap_alloc _ _ _ (by simp)]; exact heap_alloc_new w _
    · rw [Below.heap_alloc _ _ _ (by simp)]; exact heap_new2 w _ _
    · have := heap_alloc_new ((w.alloc (Obj.cells #[Value.slice A l.length c] 35)).alloc (Obj.cells #[Value.int IntKind.i64 0] 3)) (Obj.cells #[Value.slice A l.length c] 35)
      simpa using this
  generalize hWR : (((w.alloc (Obj.cells #[Value.slice A l.length c] 35)).alloc (Obj.cells #[Value.int IntKind.i64 0] 3)).alloc (Obj.cells #[Value.slice A l.length c] 35)) = wR
  obtain ⟨hb0, hsz, hI0, hbx⟩ := hwR wR hWR.symm
  clear hwR hWR
  refine rangeOver (by omega) (gf := 26) (lb := #[.pointer (some ⟨w.heap.size + 1 + 1, 0, none⟩)]) rfl (enters_of Try.func26 (by kernel_rfl) rfl) (keys_seq (8 - 1) (by omega) _ A c l w wR hr hl hb0 hbx)
    kp_t (kp_b (by omega)) (Below.refl _ _) (fun _ => rfl) (MostI A c l w) (fun _ _ _ => False) (MostMid A c l w) (MostI.own A c l w _ (by omega)) (fun _ _ _ _ _ h _ _ => h) (MostMid.own A c l w _ (by omega)) hI0 ?assign ?body ?done ?stop
  case assign =>
    rintro lp pre ⟨⟨xr, xs⟩, xo, xu⟩ W hI _
    have HI := Lib.hid hI
    clear hI
    simp only [eKey, i64]
    gi_wp2
    have hb : Below W.heap.size W (W.alloc (Obj.cells #[Value.int IntKind.i64 xr, Value.int IntKind.i64 xs, Value.int IntKind.i64 xo, Value.bool xu] 28)) := (Below.refl _ W).alloc (Nat.le_refl _) _
    have hs := HI.out.1.size
    have hn : w.heap.size + 1 < W.heap.size := (Array.getElem?_eq_some_iff.1 HI.out.2.2).1
    exact ⟨(others_of_below hb).from _, kp_of_below hb hs, (MostI.own A c l w w.heap.size (Nat.le_refl _)).alloc _ HI.out, W.heap.size, heap_alloc_new _ _, hn, rfl⟩
  case body =>
    rintro lp pre ⟨⟨xr, xs⟩, xo, xu⟩ a' W ⟨hI, B, hB, hlt, ha⟩ hpre
    dsimp only at ha hB hI
    subst ha
    obtain ⟨h1, h2, h3⟩ := hI
    have e1 : W.cell? ⟨w.heap.size + 1, 0, none⟩ = some (.int .i64 (mostP l pre)) := by simp [World.cell?, h3]
    have e2 : W.frozen? ⟨w.heap.size + 1, 0, none⟩ = false := by simp [World.frozen?, h3]
    have e3 : W.cell? ⟨w.heap.size, 0, none⟩ = some (.slice A l.length c) := by simp [World.cell?, h2]
    obtain ⟨d0, d1, d2, d3⟩ := hB.cells
    dsimp only at d0 d1 d2 d3
    have H1 := Lib.hid h1
    have H2 := Lib.hid h2
    have H3 := Lib.hid h3
    have HR := Lib.hid hr
    have hws : w.heap.size + 1 < W.heap.size := (Array.getElem?_eq_some_iff.1 h3).1
    have hBs : B < W.heap.size := (Array.getElem?_eq_some_iff.1 hB).1
    have hd : 1 ≤ 8 - 1 - 1 := by omega
    have hmx : Try.prog.follows .mixedOrders = true := by kernel_rfl
    clear h1 h2 h3 hB hpre hr hb0 hbx hI0
    simp only [eKey, i64]
    gi_wp2
    gi_region_with_o (
      refine ⟨trivial, ?_⟩; gi_at_call 15
      refine (CallsIn.inRound lp (callsIn_wide.2 (tries_calls A c l ⟨⟨xr, xs⟩, xo, xu⟩ W.drew (HR.out.below H1.out.drew) hl))).mono ?_
      rintro e w1 ⟨v1, rfl, hv, hw⟩
      obtain ⟨A1, c1, rfl⟩ := own_slice hv
      have hb1 : Below W.heap.size W w1 := (Below.refl _ W).drew.trans hw
      have f1 := (hb1.cell (p := ⟨w.heap.size + 1, 0, none⟩) hws).trans e1
      have f2 := (hb1.frozen (p := ⟨w.heap.size + 1, 0, none⟩) hws).trans e2
      have f3 := (hb1.cell (p := ⟨w.heap.size, 0, none⟩) (Nat.lt_of_succ_lt hws)).trans e3
      have f4 := (hb1.cell (p := ⟨B, 0, none⟩) hBs).trans d0
      have f5 := (hb1.cell (p := ⟨B, 1, none⟩) hBs).trans d1
      have f6 := (hb1.cell (p := ⟨B, 2, none⟩) hBs).trans d2
      have f7 := (hb1.cell (p := ⟨B, 3, none⟩) hBs).trans d3
      have HB1 := Lib.hid hb1
      clear hb1 hw hv)
    all_goals gi_wp2
    all_goals
      have hk := (others_of_below HB1.out).trans (KeepsOthers.setCell w1 ⟨w.heap.size + 1, 0, none⟩ (.int .i64 (max (mostP l pre) ((tries l ⟨⟨xr, xs⟩, xo, xu⟩).length : Int))))
      have hb := (HB1.out.mono (B' := w.heap.size) (by omega)).setCell (p := ⟨w.heap.size + 1, 0, none⟩) (Nat.le_succ _) (.int .i64 (max (mostP l pre) ((tries l ⟨⟨xr, xs⟩, xo, xu⟩).length : Int)))
      refine ⟨hk.from _, ⟨hk.walks, hb⟩, H1.out.trans hb, ?_, ?_⟩
      · rw [Below.heap_setCell _ _ _ _ (by simp)]; exact (HB1.out.block _ (Nat.lt_of_succ_lt hws)).trans H2.out
      · rw [mostP_snoc]; exact set_one ((HB1.out.block _ hws).trans H3.out) _
  case done =>
    rintro D xs W hD rfl ⟨h1, h2, h3⟩ hK
    have e1 : W.cell? ⟨w.heap.size + 1, 0, none⟩ = some (.int .i64 (mostP l (keysGo [] l))) := by simp [World.cell?, h3]
    gi_wp2
    refine ⟨by simp, .inl ⟨_, _, rfl, run_takeDeferred hK, ?_⟩⟩
    exact ⟨_, results_tmp rfl _ _ _, rfl, h1.grown (grownBy_putObj' W D _) h1.size (fun k e => by cases e; omega)⟩
  case stop =>
    rintro D c pre W _ _ h _
    exact h.elim
end Go.Proofs.Yteddfmhlnahdjaa
