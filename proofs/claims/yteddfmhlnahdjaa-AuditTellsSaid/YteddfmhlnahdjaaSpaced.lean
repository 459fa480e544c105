/- audit.Spaced: the walk. -/
import Derived.Test.YteddfmhlnahdjaaMost
import Derived.Test.YteddfmhlnahdjaaDelay
import Derived.Test.YteddfmhlnahdjaaQuietR
namespace Go.Proofs.Yteddfmhlnahdjaa
open Go Go.RowKit Go.Shelf
theorem wide_fn (k : FuncId) : Fence.wide.fn k = True := eq_true trivial
attribute [local go_sem] Oper.semAt_some wide_fn

structure GCfg where
  rep : Int
  sec : Int
  most : Int
  base : Int
  cap : Int
def eCfg (c : GCfg) : Value := .agg #[.int .i64 c.rep, .int .i64 c.sec, .int .i64 c.most, .int .i64 c.base, .int .i64 c.cap]

/-- the times up to n are spaced -/
def OkT (b m : Int) (ts : List Int) (n : Nat) : Prop := ∀ j, 1 ≤ j → j < n → dueP b m j (ts.getD (j - 1) 0) ≤ ts.getD j 0
def okT (b m : Int) (ts : List Int) : Bool := (List.range ts.length).all fun j => decide (j < 1 ∨ dueP b m j (ts.getD (j - 1) 0) ≤ ts.getD j 0)
theorem okT_iff (b m : Int) (ts : List Int) : okT b m ts = true ↔ OkT b m ts ts.length := by
  unfold okT OkT
  simp only [List.all_eq_true, List.mem_range, decide_eq_true_eq]
  exact ⟨fun h j h1 h2 => (h j h2).resolve_left (by omega), fun h j h2 => (Nat.lt_or_ge j 1).imp (fun h => h) (fun h1 => h j h1 h2)⟩
def spacedP (b m : Int) (l : List GSent) (ks : List GKey) : Bool := ks.all fun k => okT b m (tries l k)

def SpI (A : Option Addr) (n : Nat) (c : Nat) (g : GCfg) (w : World) (W : World) : Prop :=
  Below w.heap.size w W ∧ W.heap[w.heap.size]? = some (.cells #[.slice A n c] 35 (0, 0)) ∧
    W.heap[w.heap.size + 1]? = some (.cells #[.int .i64 g.rep, .int .i64 g.sec, .int .i64 g.most, .int .i64 g.base, .int .i64 g.cap] 37 (0, 0)) ∧ W.heap[w.heap.size + 2]? = some (.cells #[.bool false] 4 (0, 0))
def SpacedI (A : Option Addr) (c : Nat) (g : GCfg) (l : List GSent) (w : World) (pre : List GKey) (W : World) : Prop :=
  SpI A l.length c g w W ∧ spacedP g.base g.cap l pre = true
def SpacedX (A : Option Addr) (c : Nat) (g : GCfg) (l : List GSent) (w : World) (ct : Code) (pre : List GKey) (W : World) : Prop :=
  SpI A l.length c g w W ∧ spacedP g.base g.cap l pre = false ∧ ct = .ret
def SpacedMid (A : Option Addr) (c : Nat) (g : GCfg) (l : List GSent) (w : World) (s : List GKey × GKey × Act) (W : World) : Prop :=
  SpacedI A c g l w s.1 W ∧ ∃ B, KeyBox W B s.2.1 ∧ w.heap.size + 2 < B ∧ s.2.2 = ⟨#[.slice A l.length c, eCfg g, .pointer (some ⟨w.heap.size, 0, none⟩), .pointer (some ⟨w.heap.size + 1, 0, none⟩), .pointer (some ⟨w.heap.size + 1 + 1, 0, none⟩),
    .pointer (some ⟨B, 0, none⟩), undef, undef, .slice A l.length c, .func (.func 26) #[] #[.pointer (some ⟨w.heap.size + 1 + 1 + 1, 0, none⟩)], eKey s.2.1, undef, undef, undef, undef, undef, undef, undef, undef, undef, undef, undef, undef, undef, undef, undef, undef, undef, undef, undef, undef, undef, undef, undef, undef, undef], []⟩
theorem SpI.own {A : Option Addr} {n c : Nat} {g : GCfg} {w W W' : World} {B : Nat} (hB : w.heap.size ≤ B) {row : Option Nat} (h : SpI A n c g w W) (hg : W.grownBy W' row) (hr : ∀ r, row = some r → B ≤ r ∧ ∃ o : Obj, W.heap[r]? = some o ∧ o.isCells = false) : SpI A n c g w W' :=
  ⟨own_below hg hr hB (Nat.le_refl _) h.1, own_cells hg hr h.2.1, own_cells hg hr h.2.2.1, own_cells hg hr h.2.2.2⟩
theorem SpacedI.own (A : Option Addr) (c : Nat) (g : GCfg) (l : List GSent) (w : World) (B : Nat) (hB : w.heap.size ≤ B) : OwnFrom B (SpacedI A c g l w) := fun _ _ _ _ hs hg hr => ⟨hs.1.own hB hg hr, hs.2⟩
theorem SpacedX.own (A : Option Addr) (c : Nat) (g : GCfg) (l : List GSent) (w : World) (B : Nat) (hB : w.heap.size ≤ B) (ct : Code) : OwnFrom B (SpacedX A c g l w ct) := fun _ _ _ _ hs hg hr => ⟨hs.1.own hB hg hr, hs.2⟩
theorem SpacedMid.own (A : Option Addr) (c : Nat) (g : GCfg) (l : List GSent) (w : World) (B : Nat) (hB : w.heap.size ≤ B) : OwnFrom B (SpacedMid A c g l w) := fun _ _ _ _ hs hg hr => by
  obtain ⟨h1, b, h2, h3, h4⟩ := hs
  exact ⟨⟨h1.1.own hB hg hr, h1.2⟩, b, own_cells hg hr h2, h3, h4⟩

theorem spaced_prefix {b m : Int} {l : List GSent} {pre ks : List GKey} (h : pre <+: ks) (hp : spacedP b m l pre = false) : spacedP b m l ks = false := by
  obtain ⟨t, rfl⟩ := h
  unfold spacedP at *
  rw [List.all_append, hp]; rfl
theorem spaced_snoc (b m : Int) (l : List GSent) (pre : List GKey) (x : GKey) : spacedP b m l (pre ++ [x]) = (spacedP b m l pre && okT b m (tries l x)) := by
  unfold spacedP
  rw [List.all_append]; simp

theorem spaced_start (A : Option Addr) (n c : Nat) (g : GCfg) (w W : World) (e : W = ((((w.alloc (Obj.cells #[Value.slice A n c] 35)).alloc (Obj.cells #[Value.int IntKind.i64 g.rep, Value.int IntKind.i64 g.sec, Value.int IntKind.i64 g.most, Value.int IntKind.i64 g.base, Value.int IntKind.i64 g.cap] 37)).alloc
          (Obj.cells #[Value.bool false] 4)).alloc (Obj.cells #[Value.slice A n c] 35))) :
    W.heap.size = w.heap.size + 4 ∧ SpI A n c g w W ∧ W.heap[w.heap.size + 1 + 1 + 1]? = some (.cells #[.slice A n c] 35 (0, 0)) := by
  subst e
  have h1 := heap_alloc_new w (Obj.cells #[Value.slice A n c] 35)
  have h2 := heap_new2 w (Obj.cells #[Value.slice A n c] 35) (Obj.cells #[Value.int IntKind.i64 g.rep, Value.int IntKind.i64 g.sec, Value.int IntKind.i64 g.most, Value.int IntKind.i64 g.base, Value.int IntKind.i64 g.cap] 37)
  have h3 := heap_new2 (w.alloc (Obj.cells #[Value.slice A n c] 35)) (Obj.cells #[Value.int IntKind.i64 g.rep, Value.int IntKind.i64 g.sec, Value.int IntKind.i64 g.most, Value.int IntKind.i64 g.base, Value.int IntKind.i64 g.cap] 37) (Obj.cells #[Value.bool false] 4)
  have h4 := heap_new2 ((w.alloc (Obj.cells #[Value.slice A n c] 35)).alloc (Obj.cells #[Value.int IntKind.i64 g.rep, Value.int IntKind.i64 g.sec, Value.int IntKind.i64 g.most, Value.int IntKind.i64 g.base, Value.int IntKind.i64 g.cap] 37)) (Obj.cells #[Value.bool false] 4) (Obj.cells #[Value.slice A n c] 35)
  simp only [World.size_alloc] at h3 h4
  refine ⟨by simp, ⟨(((((Below.refl _ w).alloc (Nat.le_refl _) _).alloc (by simp) _).alloc (by simp <;> omega) _).alloc (by simp <;> omega) _), ?_, ?_, ?_⟩, h4⟩
  · rw [Below.heap_alloc _ _ _ (by simp <;> omega), Below.heap_alloc _ _ _ (by simp <;> omega), Below.heap_alloc _ _ _ (by simp)]; exact h1
  · rw [Below.heap_alloc _ _ _ (by simp <;> omega), Below.heap_alloc _ _ _ (by simp)]; exact h2
  · rw [Below.heap_alloc _ _ _ (by simp)]; exact h3

def SpLoop (b m : Int) (w w1 : World) (ts : List Int) (k : Nat) (wr : World) : Prop := OkT b m ts k ∧ Below w1.heap.size w1 wr ∧ w.heap.size ≤ w1.heap.size

theorem SpI.stored {A : Option Addr} {n c : Nat} {g : GCfg} {w W : World} (h : SpI A n c g w W) (nq : Nat) : SpI A n c g w ((W.drewN nq).setCell ⟨w.heap.size + 1 + 1, 0, none⟩ (.bool false)) := by
  obtain ⟨h1, h2, h3, h4⟩ := h
  refine ⟨(below_drewN h1 nq).setCell (p := ⟨w.heap.size + 1 + 1, 0, none⟩) (by dsimp only; omega) _, ?_, ?_, set_one (W := W.drewN nq) h4 _⟩
  · rw [Below.heap_setCell _ _ _ _ (by simp <;> omega)]; exact h2
  · rw [Below.heap_setCell _ _ _ _ (by simp <;> omega)]; exact h3
theorem due_in (lp r : Nat) (b m n last : Int) (w : World) : CallsIn (Fence.wide.inRound lp) r Try.prog 24 #[.int .i64 b, .int .i64 m, .int .i64 n, .int .i64 last] w (fun e w' => e = .returned (.int .i64 (dueP b m n last)) ∧ w' = w) :=
  CallsIn.inRound lp (callsIn_wide.2 ((due_calls b m n last w).mono fun _ _ h => ⟨h.1, h.2.symm⟩))

theorem spaced_calls (A : Option Addr) (c : Nat) (l : List GSent) (g : GCfg) (w : World) (hr : RowAt cSent 11 w A l) (hl : l.length ≤ 1000) :
    Calls Try.prog 16 #[.slice A l.length c, eCfg g] w (cellsEnd (.bool (spacedP g.base g.cap l (keysGo [] l))) w) := by
  obtain ⟨gr, gs, gm, gb, gc⟩ := g
  refine (callsIn_wide (n := 8)).1 ?_
  refine callsIn_of_wp_marks Try.func16 rfl trivial ?_ rfl
  simp only [Try.ntmps16, eCfg, List.size_toArray, List.length_cons, List.length_nil, Nat.reduceAdd, Nat.reduceSub, Array.replicate_succ, Array.replicate_zero, List.push_toArray, List.append_toArray, List.nil_append, List.cons_append]
  gi_wp2_with (gi_at_call 23; refine (callsIn_wide.2 (keys_calls A l.length c _)).mono ?_; rintro e w1 ⟨rfl, rfl⟩)
  have hwR := spaced_start A l.length c ⟨gr, gs, gm, gb, gc⟩ w
  dsimp only at hwR
  generalize hWR : ((((w.alloc (Obj.cells #[Value.slice A l.length c] 35)).alloc (Obj.cells #[Value.int IntKind.i64 gr, Value.int IntKind.i64 gs, Value.int IntKind.i64 gm, Value.int IntKind.i64 gb, Value.int IntKind.i64 gc] 37)).alloc
          (Obj.cells #[Value.bool false] 4)).alloc (Obj.cells #[Value.slice A l.length c] 35)) = wR
  obtain ⟨hsz, hI0, hbx⟩ := hwR wR hWR.symm
  clear hwR hWR
  refine rangeOver (by omega) (gf := 26) (lb := #[.pointer (some ⟨w.heap.size + 1 + 1 + 1, 0, none⟩)]) rfl (enters_of Try.func26 (by kernel_rfl) rfl) (keys_seq (8 - 1) (by omega) _ A c l w wR hr hl hI0.1 hbx)
    kp_t (kp_b (by omega)) (Below.refl _ _) (fun _ => rfl) (SpacedI A c ⟨gr, gs, gm, gb, gc⟩ l w) (SpacedX A c ⟨gr, gs, gm, gb, gc⟩ l w) (SpacedMid A c ⟨gr, gs, gm, gb, gc⟩ l w) (SpacedI.own A c _ l w _ (by omega)) (SpacedX.own A c _ l w _ (by omega)) (SpacedMid.own A c _ l w _ (by omega)) ⟨hI0, rfl⟩ ?assign ?body ?done ?stop
  case assign =>
    rintro lp pre ⟨⟨xr, xs⟩, xo, xu⟩ W hI _
    have HI := Lib.hid hI
    clear hI
    simp only [eKey, i64]
    gi_wp2
    have hb : Below W.heap.size W (W.alloc (Obj.cells #[Value.int IntKind.i64 xr, Value.int IntKind.i64 xs, Value.int IntKind.i64 xo, Value.bool xu] 28)) := (Below.refl _ W).alloc (Nat.le_refl _) _
    have hs := HI.out.1.1.size
    have hn : w.heap.size + 2 < W.heap.size := (Array.getElem?_eq_some_iff.1 HI.out.1.2.2.2).1
    exact ⟨(others_of_below hb).from _, kp_of_below hb hs, (SpacedI.own A c _ l w w.heap.size (Nat.le_refl _)).alloc _ HI.out, W.heap.size, heap_alloc_new _ _, hn, rfl⟩
  case body =>
    rintro lp pre ⟨⟨xr, xs⟩, xo, xu⟩ a' W ⟨hI, B, hB, hlt, ha⟩ hpre
    dsimp only at ha hB hI
    subst ha
    obtain ⟨⟨h1, h2, h3, h4⟩, h5⟩ := hI
    dsimp only at h1 h2 h3 h4 h5
    have e1 : W.cell? ⟨w.heap.size, 0, none⟩ = some (.slice A l.length c) := by simp [World.cell?, h2]
    obtain ⟨d0, d1, d2, d3⟩ := hB.cells
    dsimp only at d0 d1 d2 d3
    have H0 := Lib.hid (And.intro h1 (And.intro h2 (And.intro h3 h4)))
    have H5 := Lib.hid h5
    have HR := Lib.hid hr
    have hws : w.heap.size + 2 < W.heap.size := (Array.getElem?_eq_some_iff.1 h4).1
    have hBs : B < W.heap.size := (Array.getElem?_eq_some_iff.1 hB).1
    have hd : 1 ≤ 8 - 1 - 1 := by omega
    have hmx : Try.prog.follows .mixedOrders = true := by kernel_rfl
    clear h1 h2 h3 h4 h5 hB hpre hr hbx hI0
    simp only [eKey, eCfg, i64]
    gi_wp2_with (
      gi_at_call 15
      refine (CallsIn.inRound lp (callsIn_wide.2 (tries_calls A c l ⟨⟨xr, xs⟩, xo, xu⟩ W (HR.out.below H0.out.1) hl))).mono ?_
      rintro e w1 ⟨v1, rfl, hv, hw⟩
      obtain ⟨A1, c1, rfl⟩ := own_slice hv
      have HV := Lib.hid hv
      have HW := Lib.hid hw
      clear hv hw)
    gi_loopw [7] (fun i wr => ∃ k : Nat, 1 ≤ k ∧ i = .int .i64 k ∧ Hid (SpLoop gb gc w w1 (tries l ⟨⟨xr, xs⟩, xo, xu⟩) k wr)) (fun i _ => l.length + 2 - (intOf i).toNat)
    case atStart => exact ⟨1, Nat.le_refl _, rfl, fun j h1 h2 => by omega, Below.refl _ _, by have := HW.out.size; omega⟩
    case round =>
      obtain ⟨k, hk1, rfl, hinv⟩ := hrel
      obtain ⟨q1, q2, q3⟩ := hinv
      have k0 : (0 : Int) ≤ (k : Int) := Int.natCast_nonneg _
      obtain ⟨ts, hts⟩ : ∃ ts, ts = tries l ⟨⟨xr, xs⟩, xo, xu⟩ := ⟨_, rfl⟩
      have hlen2 : ts.length ≤ l.length := by rw [hts]; exact tries_len _ _
      have hlen : ts.length ≤ 1000 := by rw [hts]; exact Nat.le_trans (tries_len _ _) hl
      rw [← hts] at q1 ⊢
      have HTS := Lib.hid hts
      have HV' : Hid (w1.ownsRow W.heap.size 3 1 (.slice A1 ts.length c1) ts.length (ints ts)) := by rw [hts]; exact HV
      clear hts HV
      obtain ⟨j, rfl⟩ : ∃ j, k = j + 1 := ⟨k - 1, by omega⟩
      have Q1 := Lib.hid q1
      have hbw : Below W.heap.size W wr := HW.out.trans (q2.mono HW.out.size)
      have QB := Lib.hid hbw
      have hSp : SpI A l.length c ⟨gr, gs, gm, gb, gc⟩ w wr := ⟨H0.out.1.trans (hbw.mono (by omega)), (hbw.block _ (by omega)).trans H0.out.2.1, (hbw.block _ (by omega)).trans H0.out.2.2.1, (hbw.block _ (by omega)).trans H0.out.2.2.2⟩
      have HSp := Lib.hid hSp
      have Q2 := Lib.hid q2
      have hx1 : wr.cell? ⟨w.heap.size + 1, 3, none⟩ = some (.int .i64 gb) := by simp [World.cell?, hSp.2.2.1]
      have hx2 : wr.cell? ⟨w.heap.size + 1, 4, none⟩ = some (.int .i64 gc) := by simp [World.cell?, hSp.2.2.1]
      have hx3 : wr.cell? ⟨w.heap.size + 1 + 1, 0, none⟩ = some (.bool false) := by simp [World.cell?, hSp.2.2.2]
      have hx4 : wr.frozen? ⟨w.heap.size + 1 + 1, 0, none⟩ = false := by simp [World.frozen?, hSp.2.2.2]
      clear q1 q2 hbw hSp
      by_cases hlt : j + 1 < ts.length
      · obtain ⟨t0, ht0⟩ : ∃ x, ts[j]? = some x := ⟨ts[j], by simp⟩
        obtain ⟨t1, ht1⟩ : ∃ x, ts[j + 1]? = some x := ⟨ts[j + 1], by simp [hlt]⟩
        obtain ⟨g, rfl⟩ : ∃ g, A1 = some ⟨g, 0, none⟩ := by
          rcases HV'.out.2 with ⟨_, h0⟩ | ⟨g, cap, cur, hv, _⟩
          · omega
          · cases hv; exact ⟨g, rfl⟩
        have hg1 : g < w1.heap.size := by
          rcases HV'.out.2 with ⟨_, h0⟩ | ⟨g, cap, cur, hv, _, h3, _⟩
          · omega
          · cases hv; exact (Array.getElem?_eq_some_iff.1 h3).1
        have y0 : wr.cell? ⟨g, j, none⟩ = some (.int .i64 t0) := (Q2.out.cell (p := ⟨g, j, none⟩) hg1).trans (by have := HV'.out.cells (g := g) rfl j (.int .i64 t0) (by simp [ints, ht0]); rwa [Addr.add_lit, Nat.zero_add] at this)
        have y1 : wr.cell? ⟨g, j + 1, none⟩ = some (.int .i64 t1) := (Q2.out.cell (p := ⟨g, j + 1, none⟩) hg1).trans (by have := HV'.out.cells (g := g) rfl (j + 1) (.int .i64 t1) (by simp [ints, ht1]); rwa [Addr.add_lit, Nat.zero_add] at this)
        have hw1 : IntKind.i64.wrap (((j + 1 : Nat) : Int) - 1) = (j : Int) := by rw [show ((j + 1 : Nat) : Int) - 1 = j by omega]; exact IntWalk.i64_in _ (by omega)
        have hw2 : IntKind.i64.wrap (((j + 1 : Nat) : Int) + 1) = ((j + 1 + 1 : Nat) : Int) := by rw [show ((j + 1 : Nat) : Int) + 1 = ((j + 1 + 1 : Nat) : Int) by omega]; exact IntWalk.i64_in _ (by omega)
        have k1 : ((j + 1 : Nat) : Int) < (ts.length : Int) := by omega
        have k2 : (j : Int) < (ts.length : Int) := by omega
        have k3 : (0 : Int) ≤ (j : Int) := by omega
        have HT := Lib.hid (And.intro ht0 ht1)
        clear ht0 ht1
        gi_wp2
        refine region_quietR (by kernel_rfl) (by kernel_rfl) (by kernel_rfl) ?_
        repeat (gi_big_quiet_step ((gi_at_call 24; exact CallsIn.quiet_of_same (due_in lp _ gb gc _ _ _))))
        refine wpQuietIn_nil ?_
        intro _ hw'
        obtain ⟨nq, hw''⟩ := hw'
        subst hw''
        by_cases hbad : t1 < dueP gb gc ((j : Int) + 1) t0
        · have hno : spacedP gb gc l (pre ++ [⟨⟨xr, xs⟩, xo, xu⟩]) = false := by
            rw [spaced_snoc, H5.out, Bool.true_and, ← HTS.out]
            refine Bool.eq_false_iff.2 fun h => ?_
            have := (okT_iff gb gc ts).1 h (j + 1) (by omega) hlt
            simp only [Nat.add_sub_cancel, List.getD_eq_getElem?_getD, HT.out.1, HT.out.2, Option.getD_some] at this
            have hj : ((j + 1 : Nat) : Int) = (j : Int) + 1 := by omega
            rw [hj] at this
            omega
          have HNO := Lib.hid hno
          clear hno
          gi_wp2
          exact ⟨((others_of_below (below_drewN QB.out nq)).trans (KeepsOthers.setCell _ _ _)).from _, HSp.out.stored nq, HNO.out, rfl⟩
        · have hok : OkT gb gc ts (j + 1 + 1) := by
            intro i h1 h2
            by_cases hi : i = j + 1
            · subst hi
              simp only [Nat.add_sub_cancel, List.getD_eq_getElem?_getD, HT.out.1, HT.out.2, Option.getD_some]
              have hj : ((j + 1 : Nat) : Int) = (j : Int) + 1 := by omega
              rw [hj]
              omega
            · exact Q1.out i h1 (by omega)
          have HOK := Lib.hid hok
          clear hok
          gi_wp2
          go_roundw
          case rel => exact ⟨j + 1 + 1, by omega, by go_num, HOK.out, below_drewN Q2.out nq, q3⟩
          case measure => simp [intOf]; omega
      · have hyes : spacedP gb gc l (pre ++ [⟨⟨xr, xs⟩, xo, xu⟩]) = true := by
          rw [spaced_snoc, H5.out, Bool.true_and, ← HTS.out]
          exact (okT_iff gb gc ts).2 fun i h1 h2 => Q1.out i h1 (by omega)
        have HY := Lib.hid hyes
        have k1 : ¬ ((j + 1 : Nat) : Int) < (ts.length : Int) := by omega
        clear hyes
        gi_wp2
        exact ⟨(others_of_below QB.out).from _, kp_of_below QB.out (by omega), HSp.out, HY.out⟩
  case done =>
    rintro D xs W hD rfl ⟨⟨h1, h2, h3, h4⟩, h5⟩ hK
    have e1 : W.cell? ⟨w.heap.size + 1 + 1, 0, none⟩ = some (.bool false) := by simp [World.cell?, h4]
    have e2 : W.frozen? ⟨w.heap.size + 1 + 1, 0, none⟩ = false := by simp [World.frozen?, h4]
    have H5 := Lib.hid h5
    clear h5
    gi_wp2
    refine ⟨by simp, .inl ⟨_, _, rfl, run_takeDeferred (by rw [Below.heap_setCell _ _ _ _ (by simp <;> omega)]; exact hK), ?_⟩⟩
    have hb := h1.setCell (p := ⟨w.heap.size + 1 + 1, 0, none⟩) (by dsimp only; omega) (.bool true)
    have hc : ((W.setCell ⟨w.heap.size + 1 + 1, 0, none⟩ (.bool true)).putObj D (Obj.deferred none)).heap[w.heap.size + 1 + 1]? = _ := (World.putObj_heap_other (by omega)).trans (set_one h4 (.bool true))
    have e3 : ((W.setCell ⟨w.heap.size + 1 + 1, 0, none⟩ (.bool true)).putObj D (Obj.deferred none)).cell? ⟨w.heap.size + 1 + 1, 0, none⟩ = some (.bool true) := by simp [World.cell?, hc]
    exact ⟨.bool true, by simp [results, Try.results16, go_sem, e3], by rw [H5.out]; exact ⟨rfl, hb.grown (grownBy_putObj' _ D _) hb.size (fun k e => by cases e; omega)⟩⟩
  case stop =>
    rintro D ct pre W hD hp ⟨⟨h1, h2, h3, h4⟩, h5, rfl⟩ hK
    dsimp only
    gi_wp2
    refine ⟨by simp, .inl ⟨_, _, rfl, run_takeDeferred hK, ?_⟩⟩
    have hc : (W.putObj D (Obj.deferred none)).heap[w.heap.size + 1 + 1]? = _ := (World.putObj_heap_other (by omega)).trans h4
    have e3 : (W.putObj D (Obj.deferred none)).cell? ⟨w.heap.size + 1 + 1, 0, none⟩ = some (.bool false) := by simp [World.cell?, hc]
    exact ⟨.bool false, by simp [results, Try.results16, go_sem, e3], by rw [spaced_prefix hp h5]; exact ⟨rfl, h1.grown (grownBy_putObj' _ D _) h1.size (fun k e => by cases e; omega)⟩⟩
end Go.Proofs.Yteddfmhlnahdjaa
