/- AuditTells: the walk. -/
import Derived.Test.YteddfmhlnahdjaaAlive
import Derived.Test.YteddfmhlnahdjaaPure1
import Derived.Test.YteddfmhlnahdjaaPure2
import Derived.Deep.CutRange
import Derived.Test.YteddfmhlnahdjaaQuietC
namespace Go.Proofs.Yteddfmhlnahdjaa
open Go Go.RowKit
attribute [local go_sem] Bool.and_false

def tellsP (l : List GReq) : Bool :=
  onceGo [] l == onceOut l l.length && soundGo l 0 l == soundOut l l.length && stackedGo [] l == lawGo l (List.replicate l.length false) 0 l && alikeGo [] l == alikeOut l l.length
theorem tellsP_true (l : List GReq) : tellsP l = true := by
  unfold tellsP
  rw [once_same, sound_same, stacked_same, alike_same]
  simp

/-- the eighteen cells of two requests -/
def Req2 (p q : Addr) (y x : GReq) (w W : World) : Prop :=
  ((W.cell? p = some (.int .i64 y.key.id.r) ∧ W.cell? ⟨p.block, p.off + 1, none⟩ = some (.int .i64 y.key.id.s) ∧ W.cell? ⟨p.block, p.off + 2, none⟩ = some (.int .i64 y.key.ord) ∧ W.cell? ⟨p.block, p.off + 3, none⟩ = some (.bool y.key.undo) ∧ W.cell? ⟨p.block, p.off + 4, none⟩ = some (.int .i64 y.what.kind) ∧ W.cell? ⟨p.block, p.off + 5, none⟩ = some (.int .i64 y.what.a) ∧ W.cell? ⟨p.block, p.off + 6, none⟩ = some (.int .i64 y.what.n) ∧ W.cell? ⟨p.block, p.off + 7, none⟩ = some (.int .i64 y.what.ref.r) ∧ W.cell? ⟨p.block, p.off + 8, none⟩ = some (.int .i64 y.what.ref.s)) ∧
   (W.cell? q = some (.int .i64 x.key.id.r) ∧ W.cell? ⟨q.block, q.off + 1, none⟩ = some (.int .i64 x.key.id.s) ∧ W.cell? ⟨q.block, q.off + 2, none⟩ = some (.int .i64 x.key.ord) ∧ W.cell? ⟨q.block, q.off + 3, none⟩ = some (.bool x.key.undo) ∧ W.cell? ⟨q.block, q.off + 4, none⟩ = some (.int .i64 x.what.kind) ∧ W.cell? ⟨q.block, q.off + 5, none⟩ = some (.int .i64 x.what.a) ∧ W.cell? ⟨q.block, q.off + 6, none⟩ = some (.int .i64 x.what.n) ∧ W.cell? ⟨q.block, q.off + 7, none⟩ = some (.int .i64 x.what.ref.r) ∧ W.cell? ⟨q.block, q.off + 8, none⟩ = some (.int .i64 x.what.ref.s))) ∧ Hid (Below w.heap.size w W)
theorem Req2.of {p q : Addr} {y x : GReq} {w W : World} (h1 : ReqAt W p y) (h2 : ReqAt W q x) (h3 : Below w.heap.size w W) : Req2 p q y x w W :=
  ⟨⟨⟨h1.c0, h1.c1, h1.c2, h1.c3, h1.c4, h1.c5, h1.c6, h1.c7, h1.c8⟩, ⟨h2.c0, h2.c1, h2.c2, h2.c3, h2.c4, h2.c5, h2.c6, h2.c7, h2.c8⟩⟩, Lib.hid h3⟩
theorem Req2.next {p q : Addr} {y x : GReq} {w W W1 : World} (h : Req2 p q y x w W) (hb : Below W.heap.size W W1) : Req2 p q y x w W1 := by
  obtain ⟨⟨⟨a0, a1, a2, a3, a4, a5, a6, a7, a8⟩, ⟨b0, b1, b2, b3, b4, b5, b6, b7, b8⟩⟩, h3⟩ := h
  exact .of (ReqAt.below ⟨a0, a1, a2, a3, a4, a5, a6, a7, a8⟩ hb) (ReqAt.below ⟨b0, b1, b2, b3, b4, b5, b6, b7, b8⟩ hb) (below_call h3.out hb)
theorem Req2.drew {p q : Addr} {y x : GReq} {w W : World} (h : Req2 p q y x w W) : Req2 p q y x w W.drew := h.next (Below.refl _ _).drew

def TIn (l : List GReq) (w : World) (i k : Nat) (o a d : Bool) (wr : World) : Prop :=
  o = onceIn l i (onceOut l i) k ∧ a = alikeIn l i (alikeOut l i) k ∧ d = doneIn l i (!undoAt l i) k ∧ Below w.heap.size w wr

set_option maxRecDepth 100000 in
set_option maxHeartbeats 4000000 in
theorem tells_calls (A : Option Addr) (n c : Nat) (l0 : List GReq) (w : World) (hr : RowAt cReq 9 w A l0) (hn : l0.length = n) (hc : n ≤ c) :
    Calls Try.prog 3 #[.slice A n c] w (cellsEnd (.bool true) w) := by
  have HAL : Hid (∀ W, Calls Try.prog 5 #[] W (cellsEnd (.bool true) W)) := Lib.hid alive_calls
  have hA : 60 < n → A.isSome = true := fun h => by
    obtain ⟨x, hx⟩ : ∃ x, l0[0]? = some x := ⟨l0[0]'(by omega), by simp⟩
    obtain ⟨ad, rfl, _⟩ := hr.2 0 x hx
    rfl
  have hn0 := hr.1
  have HFEW : Hid (∀ W, Calls Try.prog 6 #[.slice A n c] W (sameEnd (.slice A (min n 60) c) W)) := Lib.hid (fun W => few_calls A n c W hA hc (by omega))
  obtain ⟨l, hl⟩ : ∃ l, l = l0.take 60 := ⟨_, rfl⟩
  have hlen : min n 60 = l.length := by rw [hl]; simp; omega
  have hrow : RowAt cReq 9 w A l := by rw [hl]; exact hr.take 60
  rw [hlen] at HFEW
  have hl60 : l.length ≤ 60 := by omega
  have hlc : l.length ≤ c := by omega
  have HR := Lib.hid hrow
  clear hr hA hn0 hl hlen hrow hn hc
  go_enter Try.func3, Try.ntmps3
  go_wp2_with (first
    | (go_at_call 5; refine (HAL.out _).mono ?_; rintro e w1 ⟨rfl, hb⟩; have HB1 := Lib.hid hb; clear hb)
    | (go_at_call 6; refine (HFEW.out _).mono ?_; rintro e w1' ⟨rfl, rfl⟩))
  go_loopw [3, 4, 5, 6] (fun o s a i wr => ∃ k : Nat, k ≤ l.length ∧ i = .int .i64 k ∧ o = .bool (onceOut l k) ∧ s = .bool (soundOut l k) ∧ a = .bool (alikeOut l k) ∧ Hid (Below w.heap.size w wr)) (fun _ _ _ i _ => l.length - (intOf i).toNat)
  case atStart => exact ⟨0, Nat.zero_le _, rfl, rfl, rfl, rfl, HB1⟩
  case round =>
    obtain ⟨i, hi, rfl, rfl, rfl, rfl, hb⟩ := hrel
    by_cases hlt : i < l.length
    · obtain ⟨x, hx⟩ : ∃ x, l[i]? = some x := ⟨l[i], by simp⟩
      obtain ⟨⟨⟨xr, xs⟩, xo, xu⟩, ⟨xk, xa, xn, ⟨xy, xz⟩⟩⟩ := x
      obtain ⟨ad, rfl, hcell⟩ := HR.out.2 i _ hx
      obtain ⟨c0, c1, c2, c3, c4, c5, c6, c7, c8⟩ := (ReqAt.of hcell).below hb.out
      dsimp only at c0 c1 c2 c3 c4 c5 c6 c7 c8
      have k0 : (0 : Int) ≤ (i : Int) := Int.natCast_nonneg _
      have k1 : (i : Int) < (l.length : Int) := by omega
      have HX := Lib.hid hx
      have hu : undoAt l i = xu := by simp [undoAt, hx]
      have HU := Lib.hid hu
      clear hx hcell hu
      go_wp2
      go_loopw [3, 5, 7, 8] (fun o a d kk wi => ∃ (k : Nat) (o' a' d' : Bool), k ≤ l.length ∧ kk = .int .i64 k ∧ o = .bool o' ∧ a = .bool a' ∧ d = .bool d' ∧ Hid (TIn l w i k o' a' d' wi)) (fun _ _ _ kk _ => l.length - (intOf kk).toNat)
      case atStart => exact ⟨0, _, _, _, Nat.zero_le _, rfl, rfl, rfl, rfl, rfl, rfl, by rw [HU.out]; rfl, hb.out⟩
      case round =>
        obtain ⟨k, o, a, d, hk, rfl, rfl, rfl, rfl, hin⟩ := hrel
        obtain ⟨q1, q2, q3, q4⟩ := hin
        by_cases hlt2 : k < l.length
        · obtain ⟨y, hy⟩ : ∃ y, l[k]? = some y := ⟨l[k], by simp⟩
          obtain ⟨⟨⟨yr, ys⟩, yo, yu⟩, ⟨yk, ya, yn, ⟨yy, yz⟩⟩⟩ := y
          obtain ⟨ad', he, hcell⟩ := HR.out.2 k _ hy
          cases he
          obtain ⟨d0, d1, d2, d3, d4, d5, d6, d7, d8⟩ := (ReqAt.of hcell).below q4
          have hx := HX.out
          obtain ⟨e0, e1, e2, e3, e4, e5, e6, e7, e8⟩ := (ReqAt.of (HR.out.2 i _ hx |>.elim fun _ h => by cases h.1; exact h.2)).below q4
          dsimp only at d0 d1 d2 d3 d4 d5 d6 d7 d8 e0 e1 e2 e3 e4 e5 e6 e7 e8
          clear c0 c1 c2 c3 c4 c5 c6 c7 c8
          have m0 : (0 : Int) ≤ (k : Int) := Int.natCast_nonneg _
          have m1 : (k : Int) < (l.length : Int) := by omega
          have hKN : ∀ (b : Bool), decide ((⟨⟨yr, ys⟩, yo, yu⟩ : GKey) = ⟨⟨xr, xs⟩, xo, xu⟩) = b → ∀ (W : World), (binOp .neq 28 (.agg #[.int .i64 yr, .int .i64 ys, .int .i64 yo, .bool yu]) (.agg #[.int .i64 xr, .int .i64 xs, .int .i64 xo, .bool xu])).run Try.prog W = .ok (.bool (!b)) W := by
            intro b hb W
            rw [run_neq_struct, ← hb]; exact congrArg (fun r => Result.andThen r _) (eqKey 9997 ⟨⟨yr, ys⟩, yo, yu⟩ ⟨⟨xr, xs⟩, xo, xu⟩ W)
          have hKO : ∀ (b : Bool), decide ((⟨⟨yr, ys⟩, yo, yu⟩ : GKey) = ⟨⟨xr, xs⟩, xo, !xu⟩) = b → ∀ (W : World), (binOp .eql 28 (.agg #[.int .i64 yr, .int .i64 ys, .int .i64 yo, .bool yu]) (.agg #[.int .i64 xr, .int .i64 xs, .int .i64 xo, .bool (!xu)])).run Try.prog W = .ok (.bool b) W := by
            intro b hb W
            rw [run_eql_struct, ← hb]; exact congrArg (fun r => Result.andThen r _) (eqKey 9997 ⟨⟨yr, ys⟩, yo, yu⟩ ⟨⟨xr, xs⟩, xo, !xu⟩ W)
          have hWE : ∀ (b : Bool), decide ((⟨yk, ya, yn, ⟨yy, yz⟩⟩ : GEff) = ⟨xk, xa, xn, ⟨xy, xz⟩⟩) = b → ∀ (W : World), (binOp .eql 30 (.agg #[.int .i64 yk, .int .i64 ya, .int .i64 yn, .int .i64 yy, .int .i64 yz]) (.agg #[.int .i64 xk, .int .i64 xa, .int .i64 xn, .int .i64 xy, .int .i64 xz])).run Try.prog W = .ok (.bool b) W := by
            intro b hb W
            rw [run_eql_struct, ← hb]; exact congrArg (fun r => Result.andThen r _) (eqEff 9997 ⟨yk, ya, yn, ⟨yy, yz⟩⟩ ⟨xk, xa, xn, ⟨xy, xz⟩⟩ W)
          have hS : Req2 (ad.add (k * 9)) (ad.add (i * 9)) ⟨⟨⟨yr, ys⟩, yo, yu⟩, ⟨yk, ya, yn, ⟨yy, yz⟩⟩⟩ ⟨⟨⟨xr, xs⟩, xo, xu⟩, ⟨xk, xa, xn, ⟨xy, xz⟩⟩⟩ w wr := ⟨⟨⟨d0, d1, d2, d3, d4, d5, d6, d7, d8⟩, ⟨e0, e1, e2, e3, e4, e5, e6, e7, e8⟩⟩, Lib.hid q4⟩
          have HS := Lib.hid hS
          have HOTH : Hid (∀ W, Calls Try.prog 7 #[.agg #[i64 xr, i64 xs, i64 xo, .bool xu]] W (cellsEnd (.agg #[i64 xr, i64 xs, i64 xo, .bool (!xu)]) W)) := Lib.hid (fun W => ref_other_calls ⟨⟨xr, xs⟩, xo, xu⟩ W)
          clear hS
          have HKN := Lib.hid hKN
          have HKO := Lib.hid hKO
          have HWE := Lib.hid hWE
          obtain ⟨bk, hbk⟩ : ∃ b, decide ((⟨⟨yr, ys⟩, yo, yu⟩ : GKey) = ⟨⟨xr, xs⟩, xo, xu⟩) = b := ⟨_, rfl⟩
          obtain ⟨bo, hbo⟩ : ∃ b, decide ((⟨⟨yr, ys⟩, yo, yu⟩ : GKey) = ⟨⟨xr, xs⟩, xo, !xu⟩) = b := ⟨_, rfl⟩
          obtain ⟨bw, hbw⟩ : ∃ b, decide ((⟨yk, ya, yn, ⟨yy, yz⟩⟩ : GEff) = ⟨xk, xa, xn, ⟨xy, xz⟩⟩) = b := ⟨_, rfl⟩
          have s1 : onceIn l i (onceOut l i) (k + 1) = (o && (decide (k = i) || !bk)) := by rw [onceIn, ← q1, ← hbk]; simp [keyAt, hx, hy]
          have s2 : alikeIn l i (alikeOut l i) (k + 1) = (a && (!bk || bw)) := by rw [alikeIn, ← q2, ← hbk, ← hbw]; simp [keyAt, whatAt, hx, hy]
          have s3 : doneIn l i (!undoAt l i) (k + 1) = (d || (decide (k < i) && bo && bw)) := by rw [doneIn, ← q3, ← hbo, ← hbw]; simp [keyAt, whatAt, hx, hy, other]
          have S1 := Lib.hid s1
          have S2 := Lib.hid s2
          have S3 := Lib.hid s3
          have Q4 := Lib.hid q4
          have hk1 := HKN.out bk hbk
          have hk2 := HKO.out bo hbo
          have hk3 := HWE.out bw hbw
          clear hKN hKO hWE HKN HKO HWE hbk hbo hbw s1 s2 s3 q1 q2 q3 q4 hx hy hcell
          go_upto_region 12 with fail
          go_cut [3] from 26 to 110 (fun v wx => v = .bool (o && (decide (k = i) || !bk)) ∧ ∃ q, wx = wr.drewN q)
          case first =>
            cases o with
            | false =>
              go_quiet (fail)
              go_wp2_with fail
              go_meet
              exact ⟨rfl, _, rfl⟩
            | true =>
              by_cases hki : k = i
              · subst hki
                go_quiet (fail)
                go_wp2_with fail
                go_meet
                exact ⟨by simp, _, rfl⟩
              · have hkb : ((k : Int) == (i : Int)) = false := beq_eq_false_iff_ne.2 (by omega)
                cases bk with
                | true =>
                  simp only [Bool.not_true] at hk1
                  go_quiet (fail)
                  go_wp2_with fail
                  go_meet
                  exact ⟨by simp [hki], _, rfl⟩
                | false =>
                  simp only [Bool.not_false] at hk1
                  go_quiet (fail)
                  go_wp2_with fail
                  go_meet
                  exact ⟨by simp, _, rfl⟩
          case rest =>
            obtain ⟨rfl, nq, rfl⟩ := hcut
            go_upto_region 13 with fail
            go_cut [5] from 26 to 110 (fun v wx => v = .bool (a && (!bk || bw)) ∧ ∃ q, wx = wr.drewN q)
            case first =>
              cases a with
              | false =>
                go_quiet (fail)
                go_wp2_with fail
                go_meet
                exact ⟨rfl, _, World.drewN_drewN _ _ _⟩
              | true =>
                cases bk with
                | false =>
                  simp only [Bool.not_false] at hk1
                  go_quiet (fail)
                  go_wp2_with fail
                  go_meet
                  exact ⟨rfl, _, World.drewN_drewN _ _ _⟩
                | true =>
                  simp only [Bool.not_true] at hk1
                  go_quiet (fail)
                  go_wp2_with fail
                  go_meet
                  exact ⟨by simp, _, World.drewN_drewN _ _ _⟩
            case rest =>
              obtain ⟨rfl, nq', rfl⟩ := hcut
              clear hk1
              go_upto_region 14 with fail
              cases d with
              | true =>
                go_quiet (fail)
                have S3' := Lib.hid (S3.out.trans (Bool.true_or _))
                go_wp2
                go_roundw
                case rel => exact ⟨k + 1, _, _, _, by omega, by go_num, rfl, rfl, rfl, S1.out.symm, S2.out.symm, S3'.out.symm, below_drewN Q4.out _⟩
                case measure => simp [intOf]; omega
              | false =>
                by_cases hki : k < i
                · have hki2 : (k : Int) < (i : Int) := by omega
                  have hd1 : decide (k < i) = true := decide_eq_true hki
                  cases bo with
                  | false =>
                    have S3' := Lib.hid (S3.out.trans (show _ = false by rw [hd1]; rfl))
                    have HK2 := Lib.hid hk2
                    refine region_quietC (Req2 (ad.add (k * 9)) (ad.add (i * 9)) ⟨⟨⟨yr, ys⟩, yo, yu⟩, ⟨yk, ya, yn, ⟨yy, yz⟩⟩⟩ ⟨⟨⟨xr, xs⟩, xo, xu⟩, ⟨xk, xa, xn, ⟨xy, xz⟩⟩⟩ w) (by kernel_rfl) (by kernel_rfl) (HS.out.next (below_drewN (Below.refl _ _) _)).drew ?_
                    repeat (first
                      | go_big_quiet_skip
                      | (go_big_quiet_want
                         apply quiet_val
                         · intro W hW
                           first
                             | (clear hW; go_simp; first | done | rfl)
                             | (obtain ⟨⟨⟨a0, a1, a2, a3, _⟩, ⟨b0, b1, b2, b3, _⟩⟩, _⟩ := hW
                                dsimp only at a0 a1 a2 a3 b0 b1 b2 b3
                                go_simp
                                first | done | rfl)
                         simp only [Act.put, List.setIfInBounds_toArray, List.set_cons_zero, List.set_cons_succ]
                         go_big_quiet_on)
                      | (go_big_quiet_want
                         apply quiet_call
                         · intro W hW
                           clear hW
                           go_simp
                           first | done | rfl | exact ⟨rfl, rfl⟩
                         · intro W hW
                           refine (HOTH.out _).mono ?_
                           rintro e w1 ⟨rfl, hb⟩
                           exact ⟨rfl, Req2.next hW hb⟩
                         simp only [Act.put, List.setIfInBounds_toArray, List.set_cons_zero, List.set_cons_succ]
                         go_big_quiet_on))
                    refine wpQuiet_nil ?_
                    intro w1 hW1
                    have HS1 := Lib.hid hW1
                    clear hW1
                    have HBW := Lib.hid HS1.out.2.out
                    go_wp2
                    exact ⟨⟨k + 1, _, _, _, by omega, by go_num, rfl, rfl, rfl, S1.out.symm, S2.out.symm, S3'.out.symm, HBW.out⟩, by simp [intOf]; omega⟩
                  | true =>
                    refine wp_abs (Req2 (ad.add (k * 9)) (ad.add (i * 9)) ⟨⟨⟨yr, ys⟩, yo, yu⟩, ⟨yk, ya, yn, ⟨yy, yz⟩⟩⟩ ⟨⟨⟨xr, xs⟩, xo, xu⟩, ⟨xk, xa, xn, ⟨xy, xz⟩⟩⟩ w) (HS.out.next (below_drewN (Below.refl _ _) _)) ?_
                    intro W0 hS0
                    have HS0 := Lib.hid hS0
                    clear hS0
                    first
                      | (go_region_held3 (fun W => ((W.cell? (ad.add (k * 9)) = some (.int .i64 yr) ∧ W.cell? ⟨(ad.add (k * 9)).block, (ad.add (k * 9)).off + 1, none⟩ = some (.int .i64 ys) ∧ W.cell? ⟨(ad.add (k * 9)).block, (ad.add (k * 9)).off + 2, none⟩ = some (.int .i64 yo) ∧ W.cell? ⟨(ad.add (k * 9)).block, (ad.add (k * 9)).off + 3, none⟩ = some (.bool yu) ∧ W.cell? ⟨(ad.add (k * 9)).block, (ad.add (k * 9)).off + 4, none⟩ = some (.int .i64 yk) ∧ W.cell? ⟨(ad.add (k * 9)).block, (ad.add (k * 9)).off + 5, none⟩ = some (.int .i64 ya) ∧ W.cell? ⟨(ad.add (k * 9)).block, (ad.add (k * 9)).off + 6, none⟩ = some (.int .i64 yn) ∧ W.cell? ⟨(ad.add (k * 9)).block, (ad.add (k * 9)).off + 7, none⟩ = some (.int .i64 yy) ∧ W.cell? ⟨(ad.add (k * 9)).block, (ad.add (k * 9)).off + 8, none⟩ = some (.int .i64 yz)) ∧
                            (W.cell? (ad.add (i * 9)) = some (.int .i64 xr) ∧ W.cell? ⟨(ad.add (i * 9)).block, (ad.add (i * 9)).off + 1, none⟩ = some (.int .i64 xs) ∧ W.cell? ⟨(ad.add (i * 9)).block, (ad.add (i * 9)).off + 2, none⟩ = some (.int .i64 xo) ∧ W.cell? ⟨(ad.add (i * 9)).block, (ad.add (i * 9)).off + 3, none⟩ = some (.bool xu) ∧ W.cell? ⟨(ad.add (i * 9)).block, (ad.add (i * 9)).off + 4, none⟩ = some (.int .i64 xk) ∧ W.cell? ⟨(ad.add (i * 9)).block, (ad.add (i * 9)).off + 5, none⟩ = some (.int .i64 xa) ∧ W.cell? ⟨(ad.add (i * 9)).block, (ad.add (i * 9)).off + 6, none⟩ = some (.int .i64 xn) ∧ W.cell? ⟨(ad.add (i * 9)).block, (ad.add (i * 9)).off + 7, none⟩ = some (.int .i64 xy) ∧ W.cell? ⟨(ad.add (i * 9)).block, (ad.add (i * 9)).off + 8, none⟩ = some (.int .i64 xz))) ∧ Hid (Below w.heap.size w W))
                          (first | exact HS1.out | exact Req2.drew HS0.out)
                          (first | (go_at_call 7; refine (HOTH.out _).mono ?_; rintro e w1 ⟨rfl, hb⟩; have HS1 := Lib.hid (Req2.next (Req2.drew HS0.out) hb); clear hb)))
                      | fail
                    have S3' := Lib.hid (S3.out.trans (show _ = bw by rw [hd1]; rfl))
                    have HBW := Lib.hid HS1.out.2.out
                    go_wp2
                    go_roundw
                    case rel => exact ⟨k + 1, _, _, _, by omega, by go_num, rfl, rfl, rfl, S1.out.symm, S2.out.symm, S3'.out.symm, HBW.out⟩
                    case measure => simp [intOf]; omega
                · have hki2 : ¬ (k : Int) < (i : Int) := by omega
                  have hd1 : decide (k < i) = false := decide_eq_false hki
                  go_quiet (fail)
                  have S3' := Lib.hid (S3.out.trans (show _ = false by rw [hd1]; rfl))
                  go_wp2
                  go_roundw
                  case rel => exact ⟨k + 1, _, _, _, by omega, by go_num, rfl, rfl, rfl, S1.out.symm, S2.out.symm, S3'.out.symm, below_drewN Q4.out _⟩
                  case measure => simp [intOf]; omega
        · have hkl : k = l.length := by omega
          subst hkl
          have Q := Lib.hid (And.intro q1 (And.intro q2 (And.intro q3 q4)))
          clear q1 q2 q3 q4
          cases hs : soundOut l i with
          | false =>
            have hs1 : soundOut l (i + 1) = false := by rw [soundOut, hs]; rfl
            have HS1 := Lib.hid hs1
            clear hs1
            go_wp2
            exact ⟨⟨i + 1, by omega, by go_num, by rw [Q.out.1]; rfl, by rw [HS1.out], by rw [Q.out.2.1]; rfl, Lib.hid Q.out.2.2.2⟩, by simp [intOf]; omega⟩
          | true =>
            have hs1 : soundOut l (i + 1) = d := by rw [soundOut, hs, Q.out.2.2.1]; rfl
            have HS1 := Lib.hid hs1
            clear hs1
            go_wp2
            exact ⟨⟨i + 1, by omega, by go_num, by rw [Q.out.1]; rfl, by rw [HS1.out], by rw [Q.out.2.1]; rfl, Lib.hid Q.out.2.2.2⟩, by simp [intOf]; omega⟩
    · have hil : i = l.length := by omega
      have H8 : Hid (∀ W, Below w.heap.size w W → Calls Try.prog 8 #[.slice A l.length c] W (cellsEnd (.bool (onceOut l i)) W)) := Lib.hid fun W hW => by
        rw [hil, ← once_same]; exact once_calls A c l W (HR.out.below hW)
      have H9 : Hid (∀ W, Below w.heap.size w W → Calls Try.prog 9 #[.slice A l.length c] W (cellsEnd (.bool (soundOut l i)) W)) := Lib.hid fun W hW => by
        rw [hil, ← sound_same]; exact sound_calls A c l W (HR.out.below hW) hlc
      have H10 : Hid (∀ W, Below w.heap.size w W → Calls Try.prog 10 #[.slice A l.length c] W (cellsEnd (.bool (stackedGo [] l)) W)) := Lib.hid fun W hW => stacked_calls A c l W (HR.out.below hW) (by omega)
      have H11 : Hid (∀ W, Below w.heap.size w W → Calls Try.prog 11 #[.slice A l.length c] W (cellsEnd (.bool (stackedGo [] l)) W)) := Lib.hid fun W hW => by
        rw [stacked_same]; exact lawst_calls A c l W (HR.out.below hW) (by omega)
      have H12 : Hid (∀ W, Below w.heap.size w W → Calls Try.prog 12 #[.slice A l.length c] W (cellsEnd (.bool (alikeOut l i)) W)) := Lib.hid fun W hW => by
        rw [hil, ← alike_same]; exact alike_calls A c l W (HR.out.below hW)
      have hil2 : (i : Int) = (l.length : Int) := by omega
      clear hil
      go_wp2_with (first
        | (go_at_call 8; refine (H8.out _ hb.out).mono ?_; rintro e w2 ⟨rfl, hb1⟩; have HB2 := Lib.hid (below_call hb.out hb1); clear hb1)
        | (go_at_call 9; refine (H9.out _ HB2.out).mono ?_; rintro e w3 ⟨rfl, hb1⟩; have HB3 := Lib.hid (below_call HB2.out hb1); clear hb1)
        | (go_at_call 10; refine (H10.out _ HB3.out).mono ?_; rintro e w4 ⟨rfl, hb1⟩; have HB4 := Lib.hid (below_call HB3.out hb1); clear hb1)
        | (go_at_call 11; refine (H11.out _ HB4.out).mono ?_; rintro e w5 ⟨rfl, hb1⟩; have HB5 := Lib.hid (below_call HB4.out hb1); clear hb1)
        | (go_at_call 12; refine (H12.out _ HB5.out).mono ?_; rintro e w6 ⟨rfl, hb1⟩; have HB6 := Lib.hid (below_call HB5.out hb1); clear hb1))
      go_ret
      exact ⟨rfl, HB6.out⟩
end Go.Proofs.Yteddfmhlnahdjaa
