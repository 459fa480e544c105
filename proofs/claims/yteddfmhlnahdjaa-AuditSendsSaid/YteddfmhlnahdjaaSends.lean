/- AuditSends: the walk. -/
import Derived.Test.YteddfmhlnahdjaaAlive
import Derived.Test.YteddfmhlnahdjaaPure3
import Derived.Deep.CutRange
namespace Go.Proofs.Yteddfmhlnahdjaa
open Go Go.RowKit

theorem mostOut_le (l : List GSent) : ∀ n, n ≤ l.length → mostOut l n ≤ n
  | 0, _ => by simp [mostOut]
  | n + 1, h => by
    have ih := mostOut_le l n (by omega)
    obtain ⟨x, hx, _⟩ := take_get (l := l) (i := n) (by omega)
    have hc : countAt l n = tries (l.take n) x.key := by rw [countAt, hx]
    have := tries_len (l.take n) x.key
    rw [mostOut, hc]
    simp only [List.length_take] at this
    omega
def CfgBox (w : World) (b : Nat) (g : GCfg) : Prop := w.heap[b]? = some (.cells #[.int .i64 g.rep, .int .i64 g.sec, .int .i64 g.most, .int .i64 g.base, .int .i64 g.cap] 37 (0, 0))
theorem CfgBox.cells {w : World} {b : Nat} {g : GCfg} (h : CfgBox w b g) : w.cell? ⟨b, 0, none⟩ = some (.int .i64 g.rep) ∧ w.cell? ⟨b, 1, none⟩ = some (.int .i64 g.sec) ∧ w.cell? ⟨b, 2, none⟩ = some (.int .i64 g.most) ∧ w.cell? ⟨b, 3, none⟩ = some (.int .i64 g.base) ∧ w.cell? ⟨b, 4, none⟩ = some (.int .i64 g.cap) := by
  refine ⟨?_, ?_, ?_, ?_, ?_⟩ <;> simp [World.cell?, show w.heap[b]? = _ from h]
def SB (g : GCfg) (key : GKey) (w W : World) : Prop := Below w.heap.size w W ∧ CfgBox W w.heap.size g ∧ KeyBox W (w.heap.size + 1) key
theorem SB.next {g : GCfg} {key : GKey} {w W W1 : World} (h : SB g key w W) (hb : Below W.heap.size W W1) : SB g key w W1 := ⟨below_call h.1 hb, (hb.block _ (Array.getElem?_eq_some_iff.1 h.2.1).1).trans h.2.1, h.2.2.next hb⟩
theorem SB.drewN {g : GCfg} {key : GKey} {w W : World} (h : SB g key w W) (q : Nat) : SB g key w (W.drewN q) := h.next (below_drewN (Below.refl _ _) q)

def SOut (l : List GSent) (g : GCfg) (key : GKey) (w : World) (i : Nat) (v : Value) (wr : World) : Prop :=
  wr.ownsRow (w.heap.size + 2) 3 1 v (tries (l.take i) key).length (ints (tries (l.take i) key)) ∧ SB g key w wr

def SApp (l : List GSent) (g : GCfg) (key : GKey) (w : World) (i : Nat) (v : Value) (p : Addr) (sn : Int) (W : World) : Prop := SOut l g key w i v W ∧ W.cell? p = some (.int .i64 sn)

set_option maxRecDepth 100000 in
set_option maxHeartbeats 4000000 in
theorem sends_calls (A : Option Addr) (n c : Nat) (l0 : List GSent) (g : GCfg) (key : GKey) (w : World) (hr : RowAt cSent 11 w A l0) (hn : l0.length = n) (hc : n ≤ c) :
    Calls Try.prog 4 #[.slice A n c, eCfg g, eKey key] w (cellsEnd (.bool true) w) := by
  have HAL : Hid (∀ W, Calls Try.prog 5 #[] W (cellsEnd (.bool true) W)) := Lib.hid alive_calls
  obtain ⟨l, hl⟩ : ∃ l, l = l0.take 60 := ⟨_, rfl⟩
  have hlen : min n 60 = l.length := by rw [hl]; simp; omega
  have hrow : RowAt cSent 11 w A l := by rw [hl]; exact hr.take 60
  have hl60 : l.length ≤ 60 := by omega
  have hA : 60 < n → ∃ ad, A = some ad := fun h => by
    obtain ⟨x, hx⟩ : ∃ x, l0[0]? = some x := ⟨l0[0]'(by omega), by simp⟩
    obtain ⟨ad, rfl, _⟩ := hr.2 0 x hx
    exact ⟨ad, rfl⟩
  have HA := Lib.hid hA
  have hn0 : n ≤ 9223372036854775807 := by rw [← hn]; exact hr.1
  have HR := Lib.hid hrow
  clear hr hl hrow hn hA
  obtain ⟨i0, hi, hz0, hz1, hz2⟩ := info_parts info3
  have HI := Lib.hid hi
  have HZ0 := Lib.hid hz0
  have HZ1 := Lib.hid hz1
  have HZ2 := Lib.hid hz2
  clear hi hz0 hz1 hz2
  obtain ⟨gr, gs, gm, gb, gc⟩ := g
  obtain ⟨⟨kr, ks⟩, ko, ku⟩ := key
  show Calls Try.prog 4 #[.slice A n c, .agg #[.int .i64 gr, .int .i64 gs, .int .i64 gm, .int .i64 gb, .int .i64 gc], .agg #[.int .i64 kr, .int .i64 ks, .int .i64 ko, .bool ku]] w _
  go_enter Try.func4, Try.ntmps4
  go_upto_if 18 with (go_at_call 5; refine (HAL.out _).mono ?_; rintro e w1 ⟨rfl, hb⟩; have HB1 := Lib.hid hb; clear hb)
  go_cut [0] from 14 to 20 (fun v wx => v = .slice A l.length c ∧ wx = w1)
  case first =>
    by_cases h : 60 < n
    · obtain ⟨ad, rfl⟩ := HA.out h
      have h1 : (60 : Int) < (n : Int) := by omega
      have h2 : (60 : Int) ≤ (c : Int) := by omega
      have h3 : ¬ c = 0 := by omega
      have h4 : l.length = 60 := by omega
      go_wp2_with fail
      go_meet
      exact ⟨by rw [h4], rfl⟩
    · have h1 : ¬ (60 : Int) < (n : Int) := by omega
      have h4 : l.length = n := by omega
      go_wp2_with fail
      go_meet
      exact ⟨by rw [h4], rfl⟩
  case rest =>
    obtain ⟨rfl, rfl⟩ := hcut
    have hsb0 : SB ⟨gr, gs, gm, gb, gc⟩ ⟨⟨kr, ks⟩, ko, ku⟩ w ((w.alloc (Obj.cells #[.int .i64 gr, .int .i64 gs, .int .i64 gm, .int .i64 gb, .int .i64 gc] 37)).alloc (Obj.cells #[.int .i64 kr, .int .i64 ks, .int .i64 ko, .bool ku] 28)) :=
      ⟨((Below.refl _ w).alloc (Nat.le_refl _) _).alloc (by simp) _, (Below.heap_alloc _ _ _ (by simp)).trans (heap_alloc_new _ _), heap_new2 _ _ _⟩
    have hsb := hsb0.next HB1.out
    have hws : w.heap.size + 2 ≤ wc.heap.size := by have := HB1.out.size; simpa using this
    have HSB := Lib.hid hsb
    clear hsb hsb0 HB1
    go_wp2
    go_loopw [7, 8, 9, 10] (fun mo sp v ii wr => ∃ i : Nat, i ≤ l.length ∧ ii = .int .i64 i ∧ mo = .int .i64 (mostOut l i) ∧ sp = .bool (spacedOut l gb gc i) ∧ Hid (SOut l ⟨gr, gs, gm, gb, gc⟩ ⟨⟨kr, ks⟩, ko, ku⟩ w i v wr)) (fun _ _ _ ii _ => l.length - (intOf ii).toNat)
    case atStart => exact ⟨0, Nat.zero_le _, rfl, rfl, rfl, World.ownsRow_nil _ _ _ _, HSB.out⟩
    case round =>
      obtain ⟨i, hi, rfl, rfl, rfl, hinv⟩ := hrel
      obtain ⟨h1, h2⟩ := hinv
      by_cases hlt : i < l.length
      · obtain ⟨x, hx⟩ : ∃ x, l[i]? = some x := ⟨l[i], by simp⟩
        have hcnt : countAt l i = tries (l.take i) x.key := by rw [countAt, hx]
        have hnow : nowAt l i = x.now := by rw [nowAt, hx]; rfl
        have htk := take_snoc hx
        obtain ⟨sr, sn, ⟨⟨xr, xs⟩, xo, xu⟩, xw⟩ := x
        obtain ⟨ad, rfl, hcell⟩ := HR.out.2 i _ hx
        obtain ⟨c0, c1, c2, c3, c4, c5, _⟩ := (SentAt.of hcell).below (World.block_lt_of_cell? w _ (SentAt.of hcell).c0) h2.1
        have hkb := h2.2.2.cells
        obtain ⟨f0, f1, f2, f3⟩ := hkb
        have g3 : wr.cell? ⟨w.heap.size, 3, none⟩ = some (.int .i64 gb) := by simp [World.cell?, show wr.heap[w.heap.size]? = _ from h2.2.1]
        have g4 : wr.cell? ⟨w.heap.size, 4, none⟩ = some (.int .i64 gc) := by simp [World.cell?, show wr.heap[w.heap.size]? = _ from h2.2.1]
        dsimp only at c0 c1 c2 c3 c4 c5 f0 f1 f2 f3 hcnt hnow
        have k0 : (0 : Int) ≤ (i : Int) := Int.natCast_nonneg _
        have k1 : (i : Int) < (l.length : Int) := by omega
        have H1 := Lib.hid h1
        have H2 := Lib.hid h2
        have HX := Lib.hid hx
        have HC := Lib.hid (And.intro hcnt (And.intro hnow htk))
        clear hx hcell h1 h2 hcnt hnow htk
        go_wp2
        go_loopw [11, 12, 13] (fun nn la kk wi => ∃ k : Nat, k ≤ i ∧ kk = .int .i64 k ∧ nn = .int .i64 ((tries (l.take k) ⟨⟨xr, xs⟩, xo, xu⟩).length : Int) ∧ la = .int .i64 (lastT (tries (l.take k) ⟨⟨xr, xs⟩, xo, xu⟩)) ∧ ∃ q, wi = wr.drewN q) (fun _ _ kk _ => i - (intOf kk).toNat)
        case atStart => exact ⟨0, Nat.zero_le _, rfl, rfl, rfl, 0, rfl⟩
        case round =>
          obtain ⟨k, hk, rfl, rfl, rfl, q, rfl⟩ := hrel
          by_cases hlt2 : k < i
          · obtain ⟨y, hy⟩ : ∃ y, l[k]? = some y := ⟨l[k], by simp⟩
            have htk := take_snoc hy
            have hlen2 : (tries (l.take k) ⟨⟨xr, xs⟩, xo, xu⟩).length ≤ k := Nat.le_trans (tries_len _ _) (by simp; omega)
            obtain ⟨sr', sn', ⟨⟨yr, ys⟩, yo, yu⟩, yw⟩ := y
            obtain ⟨ad', he, hcell⟩ := HR.out.2 k _ hy
            cases he
            obtain ⟨d0, d1, d2, d3, d4, d5, _⟩ := (SentAt.of hcell).below (World.block_lt_of_cell? w _ (SentAt.of hcell).c0) H2.out.1
            dsimp only at d0 d1 d2 d3 d4 d5
            have m0 : (0 : Int) ≤ (k : Int) := Int.natCast_nonneg _
            have m1 : (k : Int) < (i : Int) := by omega
            have m2 : (k : Int) < (l.length : Int) := by omega
            have hN : ∀ (b : Bool), decide ((⟨⟨yr, ys⟩, yo, yu⟩ : GKey) = ⟨⟨xr, xs⟩, xo, xu⟩) = b → ∀ (W : World), (binOp .eql 28 (.agg #[.int .i64 yr, .int .i64 ys, .int .i64 yo, .bool yu]) (.agg #[.int .i64 xr, .int .i64 xs, .int .i64 xo, .bool xu])).run Try.prog W = .ok (.bool b) W := by
              intro b hb W
              rw [run_eql_struct, ← hb]; exact congrArg (fun r => Result.andThen r _) (eqKey 9997 ⟨⟨yr, ys⟩, yo, yu⟩ ⟨⟨xr, xs⟩, xo, xu⟩ W)
            have HTK := Lib.hid htk
            clear hy hcell htk
            by_cases hkk : (⟨⟨yr, ys⟩, yo, yu⟩ : GKey) = ⟨⟨xr, xs⟩, xo, xu⟩
            · have hN1 := hN true (decide_eq_true hkk)
              have hnew : tries (l.take (k + 1)) ⟨⟨xr, xs⟩, xo, xu⟩ = tries (l.take k) ⟨⟨xr, xs⟩, xo, xu⟩ ++ [sn'] := by rw [HTK.out, tries_snoc, if_pos hkk]
              have HNEW := Lib.hid hnew
              have hw1 : IntKind.i64.wrap (((tries (l.take k) ⟨⟨xr, xs⟩, xo, xu⟩).length : Int) + 1) = ((tries (l.take k) ⟨⟨xr, xs⟩, xo, xu⟩).length : Int) + 1 := IntWalk.i64_in _ (by omega)
              clear hkk hnew hN
              go_wp2
              go_quiet (fail)
              go_wp2
              go_roundw
              case rel => exact ⟨k + 1, by omega, by go_num, by rw [HNEW.out]; simp, by rw [HNEW.out]; simp [lastT], _, rfl⟩
              case measure => simp [intOf]; omega
            · have hN1 := hN false (decide_eq_false hkk)
              have hnew : tries (l.take (k + 1)) ⟨⟨xr, xs⟩, xo, xu⟩ = tries (l.take k) ⟨⟨xr, xs⟩, xo, xu⟩ := by rw [HTK.out, tries_snoc, if_neg hkk]
              have HNEW := Lib.hid hnew
              clear hkk hnew hN
              go_wp2
              go_quiet (fail)
              go_wp2
              go_roundw
              case rel => exact ⟨k + 1, by omega, by go_num, by rw [HNEW.out], by rw [HNEW.out], _, rfl⟩
              case measure => simp [intOf]; omega
          · have hki : k = i := by omega
            subst hki
            obtain ⟨ts, hts⟩ : ∃ ts, ts = tries (l.take k) ⟨⟨xr, xs⟩, xo, xu⟩ := ⟨_, rfl⟩
            have hlen2 : ts.length ≤ k := by rw [hts]; exact Nat.le_trans (tries_len _ _) (by simp; omega)
            have hsp : spacedOut l gb gc (k + 1) = (spacedOut l gb gc k && (decide ((ts.length : Int) < 1) || decide (dueP gb gc ts.length (lastT ts) ≤ sn))) := by
              rw [spacedOut, HC.out.1, HC.out.2.1, ← hts]
            have hmo : mostOut l (k + 1) = max (mostOut l k) ((ts.length : Int) + 1) := by rw [mostOut, HC.out.1, ← hts]
            rw [← hts]
            have HTS := Lib.hid hts
            have HSP := Lib.hid hsp
            have HMO := Lib.hid hmo
            have hw1 : IntKind.i64.wrap ((ts.length : Int) + 1) = (ts.length : Int) + 1 := IntWalk.i64_in _ (by omega)
            clear hts hsp hmo
            have HDUE : Hid (∀ W, Calls Try.prog 13 #[.int .i64 gb, .int .i64 gc, .int .i64 ts.length, .int .i64 (lastT ts)] W (fun e w' => e = .returned (.int .i64 (dueP gb gc ts.length (lastT ts))) ∧ w' = W)) := Lib.hid fun W => (ref_due_calls gb gc ts.length (lastT ts) W).mono fun _ _ h => ⟨h.1, h.2.symm⟩
            go_upto_region 17 with fail
            go_cut [8] from 21 to 88 (fun v wx => v = .bool (spacedOut l gb gc (k + 1)) ∧ ∃ q, wx = wr.drewN q)
            case first =>
              cases hs : spacedOut l gb gc k with
              | false =>
                have hs1 : spacedOut l gb gc (k + 1) = false := by rw [HSP.out, hs]; rfl
                have HS1 := Lib.hid hs1
                clear hs1
                go_quiet (fail)
                go_wp2_with fail
                go_meet
                exact ⟨by rw [HS1.out], _, (by first | rfl | exact World.drewN_drewN _ _ _)⟩
              | true =>
                by_cases hn1 : (ts.length : Int) < 1
                · have hs1 : spacedOut l gb gc (k + 1) = true := by rw [HSP.out, hs, decide_eq_true hn1]; rfl
                  have HS1 := Lib.hid hs1
                  clear hs1
                  go_quiet (fail)
                  go_wp2_with fail
                  go_meet
                  exact ⟨by rw [HS1.out], _, (by first | rfl | exact World.drewN_drewN _ _ _)⟩
                · have hs1 : spacedOut l gb gc (k + 1) = decide (dueP gb gc ts.length (lastT ts) ≤ sn) := by rw [HSP.out, hs, decide_eq_false hn1]; rfl
                  have HS1 := Lib.hid hs1
                  clear hs1
                  go_quiet ((go_at_call 13; exact (HDUE.out _).mono (fun _ _ h => ⟨h.1, _, h.2⟩)))
                  go_wp2_with fail
                  go_meet
                  exact ⟨by rw [HS1.out], _, (by first | rfl | exact World.drewN_drewN _ _ _)⟩
            case rest =>
              obtain ⟨rfl, q2, rfl⟩ := hcut
              have hown : (wr.drewN q2).ownsRow (w.heap.size + 2) 3 1 u9 (tries (l.take k) ⟨⟨kr, ks⟩, ko, ku⟩).length (ints (tries (l.take k) ⟨⟨kr, ks⟩, ko, ku⟩)) := H1.out
              have hsb := H2.out.drewN q2
              have hmx : IntKind.i64.wrap (max (mostOut l k) ((ts.length : Int) + 1)) = max (mostOut l k) ((ts.length : Int) + 1) := by
                have := (mostOut_spec l k (by omega)).2.1
                have := mostOut_le l k (by omega)
                exact IntWalk.i64_in _ (by omega)
              have hN : ∀ (b : Bool), decide ((⟨⟨xr, xs⟩, xo, xu⟩ : GKey) = ⟨⟨kr, ks⟩, ko, ku⟩) = b → ∀ (W : World), (binOp .eql 28 (.agg #[.int .i64 xr, .int .i64 xs, .int .i64 xo, .bool xu]) (.agg #[.int .i64 kr, .int .i64 ks, .int .i64 ko, .bool ku])).run Try.prog W = .ok (.bool b) W := by
                intro b hb W
                rw [run_eql_struct, ← hb]; exact congrArg (fun r => Result.andThen r _) (eqKey 9997 ⟨⟨xr, xs⟩, xo, xu⟩ ⟨⟨kr, ks⟩, ko, ku⟩ W)
              by_cases hkk : (⟨⟨xr, xs⟩, xo, xu⟩ : GKey) = ⟨⟨kr, ks⟩, ko, ku⟩
              · have hN1 := hN true (decide_eq_true hkk)
                have hnew : tries (l.take (k + 1)) ⟨⟨kr, ks⟩, ko, ku⟩ = tries (l.take k) ⟨⟨kr, ks⟩, ko, ku⟩ ++ [sn] := by rw [HC.out.2.2, tries_snoc, if_pos hkk]
                have hlen3 : (tries (l.take k) ⟨⟨kr, ks⟩, ko, ku⟩).length ≤ k := Nat.le_trans (tries_len _ _) (by simp; omega)
                have HNEW := Lib.hid hnew
                have hS0 : ∀ nq, SApp l ⟨gr, gs, gm, gb, gc⟩ ⟨⟨kr, ks⟩, ko, ku⟩ w k u9 ⟨(ad.add (k * 11)).block, (ad.add (k * 11)).off + 1, none⟩ sn (wr.drewN nq) := fun nq => ⟨⟨H1.out, H2.out.drewN nq⟩, c1⟩
                have HS0 := Lib.hid hS0
                clear hkk hnew hN hmx hown hsb hS0
                go_wp2
                go_quiet (fail)
                have hS0 : SApp l ⟨gr, gs, gm, gb, gc⟩ ⟨⟨kr, ks⟩, ko, ku⟩ w k u9 ⟨(ad.add (k * 11)).block, (ad.add (k * 11)).off + 1, none⟩ sn ((wr.drewN q2).drewN nq) := by rw [World.drewN_drewN]; exact HS0.out _
                clear HS0
                generalize (wr.drewN q2).drewN nq = W0 at hS0 ⊢
                obtain ⟨⟨ho, hs0⟩, hc1⟩ := hS0
                have HO := Lib.hid ho
                have HS0 := Lib.hid hs0
                have hwsz : w.heap.size + 2 ≤ W0.heap.size := (Array.getElem?_eq_some_iff.1 hs0.2.2).1
                clear ho hs0
                go_wp2_with (at_builtin; refine wpList_append_lies _ (by rfl) _ _ _ (by rfl) (w.heap.size + 2) 3 i0 _ 1 8 Try.underlying38 HI.out HZ0.out HZ1.out HZ2.out rfl (by decide) u9 _ _ (by rfl) (by exact (HO.out.alloc _)) ⟨W0.heap.size, 0, none⟩ 1 1 [i64 sn] (by rfl) (by rfl) (by exact World.news_of_block (cs := #[i64 sn]) (t := 3) (fr := (0, 0)) (heap_alloc_new W0 _)) (by simp [Value.oneCell']) (by decide) (by unfold maxLen; omega) (by omega) (by simp; omega) (W0.heap.size + 1) (by simp) ?_; intro g cap w2 hown1 hgrow hat hlt1)
                have hg := (World.grownBy_alloc W0 _ _).trans hgrow
                have hlow : ∀ j, u9.ownBlock = some j → w.heap.size + 2 ≤ j := fun j hj => (HO.out.lt j hj).1
                have hsb2 : SB ⟨gr, gs, gm, gb, gc⟩ ⟨⟨kr, ks⟩, ko, ku⟩ w w2 := by
                  refine ⟨HS0.out.1.grown hg HS0.out.1.size (fun j hj => Nat.le_trans (by omega) (hlow j hj)), ?_, HS0.out.2.2.grown hg (fun e => by have := hlow _ e.symm; omega)⟩
                  exact (hg.block _ (Array.getElem?_eq_some_iff.1 HS0.out.2.1).1 (fun e => by have := hlow _ e.symm; omega)).trans HS0.out.2.1
                have HSB2 := Lib.hid hsb2
                have HO1 := Lib.hid hown1
                clear hg hlow hsb2 hown1 hgrow hat hlt1
                go_wp2
                exact ⟨⟨k + 1, by omega, by go_num, by rw [HMO.out], rfl, by rw [HNEW.out]; simpa [ints] using HO1.out, HSB2.out⟩, by simp [intOf]; omega⟩
              · have hN1 := hN false (decide_eq_false hkk)
                have hnew : tries (l.take (k + 1)) ⟨⟨kr, ks⟩, ko, ku⟩ = tries (l.take k) ⟨⟨kr, ks⟩, ko, ku⟩ := by rw [HC.out.2.2, tries_snoc, if_neg hkk]
                have HNEW := Lib.hid hnew
                have HOWN := Lib.hid hown
                have HSB2 := Lib.hid hsb
                clear hkk hnew hN hmx hown hsb
                go_wp2
                go_quiet (fail)
                go_wp2
                exact ⟨⟨k + 1, by omega, by go_num, by rw [HMO.out], rfl, by rw [HNEW.out]; exact HOWN.out, H2.out.drewN _⟩, by simp [intOf]; omega⟩
      · have hil : i = l.length := by omega
        have hil2 : (i : Int) = (l.length : Int) := by omega
        have htk : l.take i = l := by rw [hil, List.take_length]
        rw [htk] at h1
        obtain ⟨A2, c2, hv⟩ := own_slice h1
        have hrow2 := own_ints (hv ▸ h1) (by have := tries_len l ⟨⟨kr, ks⟩, ko, ku⟩; omega)
        obtain ⟨T, hT⟩ : ∃ T, T = tries l ⟨⟨kr, ks⟩, ko, ku⟩ := ⟨_, rfl⟩
        rw [← hT] at hv hrow2
        have HROW2 := Lib.hid hrow2
        have HSB := Lib.hid h2
        have H15 : Hid (∀ W, Below w.heap.size w W → Calls Try.prog 15 #[.slice A l.length c, .agg #[.int .i64 kr, .int .i64 ks, .int .i64 ko, .bool ku]] W (fun e W' => ∃ A' c', e = .returned (.slice A' T.length c') ∧ RowAt cInt 1 W' A' T ∧ Below W.heap.size W W')) := Lib.hid fun W hW =>
          (tries_calls A c l ⟨⟨kr, ks⟩, ko, ku⟩ W (HR.out.below hW) (by omega)).mono (by
            rintro e w' ⟨v, rfl, q1, q2⟩
            obtain ⟨A', c', rfl⟩ := own_slice q1
            rw [← hT] at q1 ⊢
            exact ⟨A', c', rfl, own_ints q1 (by have := tries_len l ⟨⟨kr, ks⟩, ko, ku⟩; rw [hT]; omega), q2⟩)
        have H14 : Hid (∀ W A' c', RowAt cInt 1 W A' T → RowAt cInt 1 W A2 T → Calls Try.prog 14 #[.slice A' T.length c', .slice A2 T.length c2] W (cellsEnd (.bool true) W)) := Lib.hid fun W A' c' q1 q2 => by
          have := ints_calls A' A2 c' c2 T T W q1 q2
          rwa [decide_eq_true rfl] at this
        have H16 : Hid (∀ W, Below w.heap.size w W → Calls Try.prog 16 #[.slice A l.length c, .agg #[.int .i64 gr, .int .i64 gs, .int .i64 gm, .int .i64 gb, .int .i64 gc]] W (cellsEnd (.bool (spacedOut l gb gc i)) W)) := Lib.hid fun W hW => by
          rw [hil, ← spaced_same]; exact spaced_calls A c l ⟨gr, gs, gm, gb, gc⟩ W (HR.out.below hW) (by omega)
        have H17 : Hid (∀ W, Below w.heap.size w W → Calls Try.prog 17 #[.slice A l.length c] W (cellsEnd (.int .i64 (mostOut l i)) W)) := Lib.hid fun W hW => by
          rw [hil, ← most_same]; exact most_calls A c l W (HR.out.below hW) (by omega)
        obtain ⟨f0, f1, f2, f3⟩ := h2.2.2.cells
        dsimp only at f0 f1 f2 f3
        subst hv
        clear h1 h2 hrow2 htk hT hil
        go_wp2_with (first
          | (go_at_call 15; refine (H15.out _ HSB.out.1).mono ?_; rintro e w2 ⟨A', c', rfl, hr1, hb1⟩; have HR1 := Lib.hid hr1; have HB2 := Lib.hid hb1; clear hr1 hb1)
          | (go_at_call 14; refine (H14.out _ _ _ HR1.out (HROW2.out.below HB2.out)).mono ?_; rintro e w3 ⟨rfl, hb1⟩; have HSB3 := Lib.hid ((HSB.out.next HB2.out).next hb1); obtain ⟨z0, z1, z2, z3, z4⟩ := HSB3.out.2.1.cells; dsimp only at z0 z1 z2 z3 z4; clear hb1)
          | (go_at_call 16; refine (H16.out _ HSB3.out.1).mono ?_; rintro e w4 ⟨rfl, hb1⟩; have HB4 := Lib.hid (below_call HSB3.out.1 hb1); clear hb1)
          | (go_at_call 17; refine (H17.out _ HB4.out).mono ?_; rintro e w5 ⟨rfl, hb1⟩; have HB5 := Lib.hid (below_call HB4.out hb1); clear hb1))
        go_ret
        exact ⟨rfl, HB5.out⟩
end Go.Proofs.Yteddfmhlnahdjaa
