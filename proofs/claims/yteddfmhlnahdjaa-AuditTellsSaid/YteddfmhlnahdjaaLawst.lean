/- the law's own stacked: the walk. -/
import Derived.Test.YteddfmhlnahdjaaInts
import Derived.Test.YteddfmhlnahdjaaStk
import Derived.Laws.MakeOwn
namespace Go.Proofs.Yteddfmhlnahdjaa
open Go Go.RowKit

theorem wpList_make_m {P : Program} {w : World} {ops : Array Oper} {rest : List Oper} {o : Oper} {a : Act} {Q : Exit → Act → World → Prop} (hg : o.guard = none) (t : TypeId) (m x : Operand) (hop : o.op = .makeSlice t m x) {v : Value} {w' : World}
    (hrun : (Instr.makeSlice t (a.eval m) (a.eval x)).run P w = .ok v w') (hK : wpList P ops Q rest (a.put o.dst v) w') : wpList P ops Q (o :: rest) a w := by
  refine wpList_plain hg fun K' hK' => ?_
  unfold Oper.wp
  simp [execOp, hop, hrun, Result.andThen]
  exact hK' _ _ hK

/-- the last one of the change that is not undone and not gone, below k -/
def lastOf (l : List GReq) (gone : List Bool) (id : GId) : Nat → Int
  | 0 => -1
  | k + 1 => match l[k]? with
    | some q => if q.key.id = id ∧ q.key.undo = false ∧ gone[k]? = some false then (k : Int) else lastOf l gone id k
    | none => lastOf l gone id k
theorem lastOf_range (l : List GReq) (gone : List Bool) (id : GId) : ∀ k, -1 ≤ lastOf l gone id k ∧ lastOf l gone id k < (k : Int)
  | 0 => by simp [lastOf]
  | k + 1 => by
    have ih := lastOf_range l gone id k
    unfold lastOf
    split
    · split <;> omega
    · omega
def keyIs (l : List GReq) (m : Nat) (k : GKey) : Bool := match l[m]? with
  | some q => decide (q.key = k)
  | none => false
def lawGo (l : List GReq) : List Bool → Nat → List GReq → Bool
  | _, _, [] => true
  | gone, i, q :: r =>
    if q.key.undo then
      if lastOf l gone q.key.id i < 0 then false
      else if keyIs l (lastOf l gone q.key.id i).toNat (other q.key) then lawGo l (gone.set (lastOf l gone q.key.id i).toNat true) (i + 1) r else false
    else lawGo l gone (i + 1) r

def bools (l : List Bool) : Array Value := (l.map Value.bool).toArray
theorem bools_set (l : List Bool) (m : Nat) (b : Bool) : (bools l).setIfInBounds m (.bool b) = bools (l.set m b) := by
  unfold bools
  rw [List.setIfInBounds_toArray, List.map_set]
theorem bools_get {l : List Bool} {m : Nat} {b : Bool} (h : l[m]? = some b) : (bools l)[m]? = some (.bool b) := by
  unfold bools; simp [h]
theorem set_at {W : World} {b m : Nat} {vs : Array Value} {t : TypeId} {p : Nat × Nat} (h : W.heap[b]? = some (.cells vs t p)) (u : Value) : (W.setCell ⟨b, m, none⟩ u).heap[b]? = some (.cells (vs.setIfInBounds m u) t p) := by
  obtain ⟨hlt, hk⟩ := Array.getElem?_eq_some_iff.1 h
  show (W.heap.modify b _)[b]? = _
  rw [Array.getElem?_eq_getElem (by rw [Array.size_modify]; exact hlt), Array.getElem_modify_self, hk]
  simp

def LawInv (l : List GReq) (w : World) (k : Nat) (wr : World) : Prop :=
  ∃ gone : List Bool, gone.length = l.length ∧ wr.heap[w.heap.size]? = some (.cells (bools gone) 4 (0, 0)) ∧ Below w.heap.size w wr ∧ lawGo l (List.replicate l.length false) 0 l = lawGo l gone k (l.drop k)
def LawIn (l : List GReq) (gone : List Bool) (id : GId) (w : World) (m : Nat) (last : Int) (wr : World) : Prop :=
  last = lastOf l gone id m ∧ wr.heap[w.heap.size]? = some (.cells (bools gone) 4 (0, 0)) ∧ Below w.heap.size w wr

theorem info4 : (Try.prog.info? 4).map (fun i => (i.zero, i.size, i.bytes)) = some (some (.bool false), 1, 1) := by kernel_rfl
theorem make_bools (n : Nat) (hn : n ≤ 1000) (w : World) :
    (Instr.makeSlice 53 (.int .i64 n) (.int .i64 n)).run Try.prog w = .ok (.slice (some ⟨w.heap.size, 0, none⟩) n n) (w.alloc (.cells (bools (List.replicate n false)) 4)) := by
  obtain ⟨i0, hi, hz0, hz1, hz2⟩ := info_parts info4
  have h := run_make (P := Try.prog) w 53 4 i0 (.bool false) Try.underlying53 hi hz0 .i64 .i64 n n (by omega) (by omega) (by rw [hz2]; omega) (by omega)
  rw [h, hz1]
  have hb : madeCells (Value.bool false).cells (((n : Int).toNat) * 1) = bools (List.replicate n false) := by
    unfold madeCells bools
    rw [Nat.mul_one, Int.toNat_natCast, List.map_replicate]
    refine Array.ext (by simp) fun i h1 h2 => ?_
    simp [Value.cells, Nat.mod_one]
  rw [hb]
  simp

def KeyC (W : World) (p : Addr) (k : GKey) : Prop := W.cell? p = some (.int .i64 k.id.r) ∧ W.cell? ⟨p.block, p.off + 1, none⟩ = some (.int .i64 k.id.s) ∧ W.cell? ⟨p.block, p.off + 2, none⟩ = some (.int .i64 k.ord) ∧ W.cell? ⟨p.block, p.off + 3, none⟩ = some (.bool k.undo)
theorem KeyC.next {W W1 : World} {p : Addr} {k : GKey} (h : KeyC W p k) (hb : Below W.heap.size W W1) : KeyC W1 p k :=
  ⟨(hb.cell (cell_lt h.1)).trans h.1, (hb.cell (cell_lt h.2.1)).trans h.2.1, (hb.cell (cell_lt h.2.2.1)).trans h.2.2.1, (hb.cell (cell_lt h.2.2.2)).trans h.2.2.2⟩
def LawRest (gone : List Bool) (w W : World) : Prop := Below w.heap.size w W ∧ W.heap[w.heap.size]? = some (.cells (bools gone) 4 (0, 0))
theorem LawRest.next {gone : List Bool} {w W W1 : World} (h : LawRest gone w W) (hb : Below W.heap.size W W1) : LawRest gone w W1 :=
  ⟨below_call h.1 hb, (hb.block _ (Array.getElem?_eq_some_iff.1 h.2).1).trans h.2⟩
def Two (p q : Addr) (x y : GKey) (gone : List Bool) (w W : World) : Prop := KeyC W p x ∧ KeyC W q y ∧ Hid (LawRest gone w W)
theorem Two.next {p q : Addr} {x y : GKey} {gone : List Bool} {w W W1 : World} (h : Two p q x y gone w W) (hb : Below W.heap.size W W1) : Two p q x y gone w W1 := ⟨h.1.next hb, h.2.1.next hb, Lib.hid (h.2.2.out.next hb)⟩
theorem Two.drew {p q : Addr} {x y : GKey} {gone : List Bool} {w W : World} (h : Two p q x y gone w W) : Two p q x y gone w W.drew := h.next (Below.refl _ _).drew

theorem lawst_calls (A : Option Addr) (c : Nat) (l : List GReq) (w : World) (hr : RowAt cReq 9 w A l) (hl : l.length ≤ 1000) :
    Calls Try.prog 11 #[.slice A l.length c] w (cellsEnd (.bool (lawGo l (List.replicate l.length false) 0 l)) w) := by
  have HR := Lib.hid hr
  clear hr
  have HMK := Lib.hid (make_bools l.length hl w)
  go_enter Try.func11, Try.ntmps11
  go_wp2_with (at_make; refine wpList_make_m (by rfl) 53 (.tmp 8) (.tmp 8) (by rfl) (by exact HMK.out) ?_)
  go_loopw [4] (fun i wr => ∃ k : Nat, k ≤ l.length ∧ i = .int .i64 k ∧ Hid (LawInv l w k wr)) (fun i _ => l.length - (intOf i).toNat)
  case atStart => exact ⟨0, Nat.zero_le _, rfl, List.replicate l.length false, by simp, heap_alloc_new _ _, (Below.refl _ _).alloc (Nat.le_refl _) _, rfl⟩
  case round =>
    obtain ⟨k, hk, rfl, hinv⟩ := hrel
    obtain ⟨gone, h1, h2, h3, h4⟩ := hinv
    by_cases hlt : k < l.length
    · obtain ⟨x, hx⟩ : ∃ x, l[k]? = some x := ⟨l[k], by simp [hlt]⟩
      have hd : l.drop k = x :: l.drop (k + 1) := drop_at hx
      obtain ⟨⟨⟨xr, xs⟩, xo, xu⟩, xw⟩ := x
      obtain ⟨ad, rfl, hcell⟩ := HR.out.2 k _ hx
      obtain ⟨c0, c1, c2, c3, _⟩ := (ReqAt.of hcell).below h3
      dsimp only at c0 c1 c2 c3
      have k0 : (0 : Int) ≤ (k : Int) := Int.natCast_nonneg _
      have k1 : (k : Int) < (l.length : Int) := by omega
      have HX := Lib.hid hx
      have H1 := Lib.hid h1
      have H2 := Lib.hid h2
      have H3 := Lib.hid h3
      have H4 := Lib.hid h4
      have HD := Lib.hid hd
      clear hx hcell h1 h2 h3 h4 hd
      cases xu with
      | false =>
        have hgo : lawGo l (List.replicate l.length false) 0 l = lawGo l gone (k + 1) (l.drop (k + 1)) := by rw [H4.out, HD.out, lawGo]; simp
        have HGO := Lib.hid hgo
        clear hgo
        go_wp2
        go_roundw
        case rel => exact ⟨k + 1, by omega, by go_num, gone, H1.out, H2.out, H3.out, HGO.out⟩
        case measure => simp [intOf]; omega
      | true =>
        go_wp2
        go_loopw [5, 6] (fun v i wi => ∃ (m : Nat) (last : Int), m ≤ k ∧ i = .int .i64 m ∧ v = .int .i64 last ∧ Hid (LawIn l gone ⟨xr, xs⟩ w m last wi)) (fun _ i _ => k - (intOf i).toNat)
        case atStart => exact ⟨0, -1, Nat.zero_le _, rfl, rfl, rfl, H2.out, H3.out⟩
        case round =>
          obtain ⟨m, last, hm, rfl, rfl, hin⟩ := hrel
          obtain ⟨q1, q2, q3⟩ := hin
          by_cases hlt2 : m < k
          · obtain ⟨y, hy⟩ : ∃ y, l[m]? = some y := ⟨l[m], by simp⟩
            obtain ⟨g, hg⟩ : ∃ g, gone[m]? = some g := ⟨gone[m]'(by have := H1.out; omega), by simp⟩
            obtain ⟨⟨⟨yr, ys⟩, yo, yu⟩, yw⟩ := y
            obtain ⟨ad', he, hcell⟩ := HR.out.2 m _ hy
            cases he
            obtain ⟨d0, d1, d2, d3, _⟩ := (ReqAt.of hcell).below q3
            obtain ⟨e0, e1, e2, e3, _⟩ := (ReqAt.of (HR.out.2 k _ HX.out |>.elim fun _ h => by cases h.1; exact h.2)).below q3
            dsimp only at d0 d1 d2 d3 e0 e1 e2 e3
            have f0 : wr.cell? ⟨w.heap.size, m, none⟩ = some (.bool g) := by simp [World.cell?, q2, bools_get hg]
            have m0 : (0 : Int) ≤ (m : Int) := Int.natCast_nonneg _
            have m1 : (m : Int) < (k : Int) := by omega
            have m2 : (m : Int) < (l.length : Int) := by omega
            have Q1 := Lib.hid q1
            have Q2 := Lib.hid q2
            have Q3 := Lib.hid q3
            have HY := Lib.hid (And.intro hy hg)
            clear q1 q2 q3 hy hg hcell
            have hN : ∀ (b : Bool), decide ((⟨yr, ys⟩ : GId) = ⟨xr, xs⟩) = b → ∀ (W : World), (binOp .eql 26 (.agg #[.int .i64 yr, .int .i64 ys]) (.agg #[.int .i64 xr, .int .i64 xs])).run Try.prog W = .ok (.bool b) W := by
              intro b hb W
              rw [run_eql_struct, ← hb]; exact congrArg (fun r => Result.andThen r _) (eqId 9998 ⟨yr, ys⟩ ⟨xr, xs⟩ W)
            have HN := Lib.hid hN
            clear hN
            by_cases hid : (⟨yr, ys⟩ : GId) = ⟨xr, xs⟩
            · have hN := HN.out true (decide_eq_true hid)
              have HID := Lib.hid hid
              clear hid
              cases yu with
              | true =>
                have hno : lastOf l gone ⟨xr, xs⟩ (m + 1) = lastOf l gone ⟨xr, xs⟩ m := by rw [lastOf, HY.out.1]; exact if_neg (by rintro ⟨_, h, _⟩; cases h)
                have HNO := Lib.hid hno
                clear hno
                go_wp2
                go_quiet (fail)
                go_wp2
                go_roundw
                case rel => exact ⟨m + 1, last, by omega, by go_num, rfl, Q1.out.trans HNO.out.symm, Q2.out, below_drewN Q3.out _⟩
                case measure => simp [intOf]; omega
              | false =>
                cases g with
                | true =>
                  have hno : lastOf l gone ⟨xr, xs⟩ (m + 1) = lastOf l gone ⟨xr, xs⟩ m := by rw [lastOf, HY.out.1]; exact if_neg (by rw [HY.out.2]; rintro ⟨_, _, h⟩; cases h)
                  have HNO := Lib.hid hno
                  clear hno
                  go_wp2
                  go_quiet (fail)
                  go_wp2
                  go_roundw
                  case rel => exact ⟨m + 1, last, by omega, by go_num, rfl, Q1.out.trans HNO.out.symm, Q2.out, below_drewN Q3.out _⟩
                  case measure => simp [intOf]; omega
                | false =>
                  have hyes : lastOf l gone ⟨xr, xs⟩ (m + 1) = (m : Int) := by rw [lastOf, HY.out.1]; exact if_pos ⟨HID.out, rfl, HY.out.2⟩
                  have HYES := Lib.hid hyes
                  clear hyes
                  go_wp2
                  go_quiet (fail)
                  go_wp2
                  go_roundw
                  case rel => exact ⟨m + 1, m, by omega, by go_num, rfl, HYES.out.symm, Q2.out, below_drewN Q3.out _⟩
                  case measure => simp [intOf]; omega
            · have hN := HN.out false (decide_eq_false hid)
              have HID := Lib.hid hid
              clear hid
              have hno : lastOf l gone ⟨xr, xs⟩ (m + 1) = lastOf l gone ⟨xr, xs⟩ m := by rw [lastOf, HY.out.1]; exact if_neg (by rintro ⟨h, _⟩; exact HID.out h)
              have HNO := Lib.hid hno
              clear hno
              go_wp2
              go_quiet (fail)
              go_wp2
              go_roundw
              case rel => exact ⟨m + 1, last, by omega, by go_num, rfl, Q1.out.trans HNO.out.symm, Q2.out, below_drewN Q3.out _⟩
              case measure => simp [intOf]; omega

          · have hmk : m = k := by omega
            subst hmk
            have Q1 := Lib.hid q1
            have Q2 := Lib.hid q2
            have Q3 := Lib.hid q3
            have hlr := lastOf_range l gone ⟨xr, xs⟩ m
            rw [← q1] at hlr
            clear q1 q2 q3
            by_cases hneg : last < 0
            · have hres : lawGo l (List.replicate l.length false) 0 l = false := by
                rw [H4.out, HD.out, lawGo, if_pos rfl, ← Q1.out, if_pos hneg]
              have HRES := Lib.hid hres
              clear hres
              go_wp2
              go_quiet (fail)
              go_wp2
              go_ret
              exact ⟨by rw [HRES.out]; rfl, below_drewN Q3.out _⟩
            · obtain ⟨j, rfl⟩ : ∃ j : Nat, last = (j : Int) := ⟨last.toNat, by omega⟩
              have hjk : j < m := by omega
              obtain ⟨y, hy⟩ : ∃ y, l[j]? = some y := ⟨l[j], by simp⟩
              obtain ⟨⟨⟨yr, ys⟩, yo, yu⟩, yw⟩ := y
              obtain ⟨ad', he, hcell⟩ := HR.out.2 j _ hy
              cases he
              obtain ⟨d0, d1, d2, d3, _⟩ := (ReqAt.of hcell).below Q3.out
              obtain ⟨e0, e1, e2, e3, _⟩ := (ReqAt.of (HR.out.2 m _ HX.out |>.elim fun _ h => by cases h.1; exact h.2)).below Q3.out
              dsimp only at d0 d1 d2 d3 e0 e1 e2 e3
              have hS : Two (ad.add (j * 9)) (ad.add (m * 9)) ⟨⟨yr, ys⟩, yo, yu⟩ ⟨⟨xr, xs⟩, xo, true⟩ gone w wr := ⟨⟨d0, d1, d2, d3⟩, ⟨e0, e1, e2, e3⟩, Lib.hid ⟨Q3.out, Q2.out⟩⟩
              have HS := Lib.hid hS
              have HY := Lib.hid hy
              have m0 : (0 : Int) ≤ (j : Int) := Int.natCast_nonneg _
              have m1 : (j : Int) < (m : Int) := by omega
              have m2 : (j : Int) < (l.length : Int) := by omega
              have hOth : ∀ W, Calls Try.prog 7 #[.agg #[i64 xr, i64 xs, i64 xo, .bool true]] W (cellsEnd (.agg #[i64 xr, i64 xs, i64 xo, .bool false]) W) := fun W => ref_other_calls ⟨⟨xr, xs⟩, xo, true⟩ W
              have HOTH := Lib.hid hOth
              have hN : ∀ (b : Bool), decide ((⟨⟨yr, ys⟩, yo, yu⟩ : GKey) = ⟨⟨xr, xs⟩, xo, false⟩) = b → ∀ (W : World), (binOp .neq 28 (.agg #[.int .i64 yr, .int .i64 ys, .int .i64 yo, .bool yu]) (.agg #[.int .i64 xr, .int .i64 xs, .int .i64 xo, .bool false])).run Try.prog W = .ok (.bool (!b)) W := by
                intro b hb W
                rw [run_neq_struct, ← hb]; exact congrArg (fun r => Result.andThen r _) (eqKey 9997 ⟨⟨yr, ys⟩, yo, yu⟩ ⟨⟨xr, xs⟩, xo, false⟩ W)
              have HN := Lib.hid hN
              clear hN hOth hS hy hcell d0 d1 d2 d3 e0 e1 e2 e3
              have hrun : ∃ b, decide ((⟨⟨yr, ys⟩, yo, yu⟩ : GKey) = ⟨⟨xr, xs⟩, xo, false⟩) = b := ⟨_, rfl⟩
              obtain ⟨b, hb⟩ := hrun
              have hN := HN.out b hb
              have HB := Lib.hid hb
              clear hb
              go_wp2
              refine wp_abs (Two (ad.add (j * 9)) (ad.add (m * 9)) ⟨⟨yr, ys⟩, yo, yu⟩ ⟨⟨xr, xs⟩, xo, true⟩ gone w) HS.out ?_
              intro W0 hS0
              have HS0 := Lib.hid hS0
              clear hS0
              go_region_held3 (fun W => (W.cell? (ad.add (j * 9)) = some (.int .i64 yr) ∧ W.cell? ⟨(ad.add (j * 9)).block, (ad.add (j * 9)).off + 1, none⟩ = some (.int .i64 ys) ∧ W.cell? ⟨(ad.add (j * 9)).block, (ad.add (j * 9)).off + 2, none⟩ = some (.int .i64 yo) ∧ W.cell? ⟨(ad.add (j * 9)).block, (ad.add (j * 9)).off + 3, none⟩ = some (.bool yu))
                  ∧ (W.cell? (ad.add (m * 9)) = some (.int .i64 xr) ∧ W.cell? ⟨(ad.add (m * 9)).block, (ad.add (m * 9)).off + 1, none⟩ = some (.int .i64 xs) ∧ W.cell? ⟨(ad.add (m * 9)).block, (ad.add (m * 9)).off + 2, none⟩ = some (.int .i64 xo) ∧ W.cell? ⟨(ad.add (m * 9)).block, (ad.add (m * 9)).off + 3, none⟩ = some (.bool true)) ∧ Hid (LawRest gone w W))
                (first | exact HS1.out | exact Two.drew HS0.out)
                (first | (go_at_call 7; refine (HOTH.out _).mono ?_; rintro e w1 ⟨rfl, hb⟩; have HS1 := Lib.hid (Two.next (Two.drew HS0.out) hb); clear hb))
              obtain ⟨hw1, hbox⟩ := HS1.out.2.2.out
              have HW1 := Lib.hid hw1
              have HBOX := Lib.hid hbox
              have f1 : w1.frozen? ⟨w.heap.size, j, none⟩ = false := by simp [World.frozen?, hbox]
              obtain ⟨g, hg⟩ : ∃ g, gone[j]? = some g := ⟨gone[j]'(by have := H1.out; omega), by simp⟩
              have f2 : w1.cell? ⟨w.heap.size, j, none⟩ = some (.bool g) := by simp [World.cell?, hbox, bools_get hg]
              clear hw1 hbox hg
              have hky : keyIs l (lastOf l gone ⟨xr, xs⟩ m).toNat (other ⟨⟨xr, xs⟩, xo, true⟩) = b := by
                rw [← Q1.out, Int.toNat_natCast, keyIs, HY.out]; exact HB.out
              have hdj : decide ((j : Int) < 0) = false := by simp
              cases b with
              | true =>
                have hres : lawGo l (List.replicate l.length false) 0 l = lawGo l (gone.set j true) (m + 1) (l.drop (m + 1)) := by
                  rw [H4.out, HD.out, lawGo, if_pos rfl, hky, if_pos rfl, ← Q1.out, if_neg (by omega), Int.toNat_natCast]
                have HRES := Lib.hid hres
                clear hres hky
                simp only [hdj, Bool.false_or, Bool.not_true]
                go_wp2
                go_roundw
                case rel => exact ⟨m + 1, by omega, by go_num, gone.set j true, by rw [List.length_set]; exact H1.out, by rw [← bools_set]; exact set_at HBOX.out _, HW1.out.setCell (p := ⟨w.heap.size, j, none⟩) (Nat.le_refl _) _, HRES.out⟩
                case measure => simp [intOf]; omega
              | false =>
                have hres : lawGo l (List.replicate l.length false) 0 l = false := by
                  rw [H4.out, HD.out, lawGo, if_pos rfl, hky, ← Q1.out, if_neg (by omega)]; rfl
                have HRES := Lib.hid hres
                clear hres hky
                simp only [hdj, Bool.false_or, Bool.not_false]
                go_wp2
                go_ret
                exact ⟨by rw [HRES.out]; rfl, HW1.out⟩
    · have hk' : k = l.length := by omega
      subst hk'
      have hres : lawGo l (List.replicate l.length false) 0 l = true := by rw [h4]; simp [lawGo]
      have HRES := Lib.hid hres
      have H3 := Lib.hid h3
      clear hres h1 h2 h3 h4
      go_wp2
      go_ret
      exact ⟨by rw [HRES.out]; rfl, H3.out⟩
end Go.Proofs.Yteddfmhlnahdjaa
