/- The walk of audit.Alike: for every list that can be read. -/
import Derived.Test.YteddfmhlnahdjaaIndex
namespace Go.Proofs.Yteddfmhlnahdjaa
open Go Go.RowKit

def zEff : GEff := ⟨0, 0, 0, ⟨0, 0⟩⟩
theorem zero30 (w : World) : (zeroValue 30).run Try.prog w = .ok (eEff zEff) w := by kernel_rfl
def alikeGo (m : List (GKey × GEff)) : List GReq → Bool
  | [] => true
  | q :: r => match look m q.key with
    | some v => if v = q.what then alikeGo (put m q.key q.what) r else false
    | none => alikeGo (put m q.key q.what) r
def AlikeInv (l : List GReq) (w : World) (b : Nat) (k : Nat) (wr : World) : Prop :=
  ∃ m, World.mapAt wr eKey b (vals eEff m) ∧ alikeGo [] l = alikeGo m (l.drop k) ∧ Below w.heap.size w wr

theorem alike_calls (A : Option Addr) (c : Nat) (l : List GReq) (w : World) (hr : RowAt cReq 9 w A l) :
    Calls Try.prog 12 #[.slice A l.length c] w (cellsEnd (.bool (alikeGo [] l)) w) := by
  have HR := Lib.hid hr
  have hlen : l.length ≤ 9223372036854775807 := hr.1
  clear hr
  have hmm := @run_makeMap Try.prog
  go_enter Try.func12, Try.ntmps12
  go_wp2
  go_loopw [11] (fun i wr => ∃ k : Nat, k ≤ l.length ∧ i = .int .i64 k ∧ Hid (AlikeInv l w w.heap.size k wr)) (fun i _ => l.length - (intOf i).toNat)
  case atStart => exact ⟨0, Nat.zero_le _, rfl, [], mapAt_made _ _, rfl, (Below.refl _ _).alloc (Nat.le_refl _) _⟩
  case round =>
    obtain ⟨k, hk, rfl, hinv⟩ := hrel
    by_cases hlt : k < l.length
    · obtain ⟨x, hx⟩ : ∃ x, l[k]? = some x := ⟨l[k], by simp [hlt]⟩
      obtain ⟨ad, rfl, hcell⟩ := HR.out.2 k x hx
      obtain ⟨m, hm, h1, h2⟩ := hinv
      obtain ⟨c0, c1, c2, c3, c4, c5, c6, c7, c8⟩ := (ReqAt.of hcell).below h2
      have hd : l.drop k = x :: l.drop (k + 1) := drop_at hx
      have H1 := Lib.hid h1
      have H2 := Lib.hid h2
      have HM := Lib.hid hm
      have HD := Lib.hid hd
      have k0 : (0 : Int) ≤ (k : Int) := Int.natCast_nonneg _
      have k1 : (k : Int) < (l.length : Int) := by omega
      have hgo : alikeGo [] l = (match look m x.key with
        | some v => if v = x.what then alikeGo (put m x.key x.what) (l.drop (k + 1)) else false
        | none => alikeGo (put m x.key x.what) (l.drop (k + 1))) := by rw [h1, hd, alikeGo]
      have HGO := Lib.hid hgo
      clear hx h1 h2 hcell hm hd hgo
      have hput : ∀ (W : World), World.mapAt W eKey w.heap.size (vals eEff m) → ∃ w', (Instr.mapUpdate 54 (.map (some w.heap.size)) (.agg #[i64 x.key.id.r, i64 x.key.id.s, i64 x.key.ord, .bool x.key.undo]) (.agg #[i64 x.what.kind, i64 x.what.a, i64 x.what.n, i64 x.what.ref.r, i64 x.what.ref.s])).run Try.prog W = .ok () w' ∧ (World.mapAt w' eKey w.heap.size (vals eEff (put m x.key x.what)) ∧ W.grownBy w' (some w.heap.size)) := fun W hW => by
        have := mapUpdate_run (enc := eKey) Try.underlying54 KTKey hW x.key (eEff x.what)
        rwa [put_vals] at this
      have HPUT := Lib.hid hput
      clear hput
      cases hlk : look m x.key with
      | none =>
        have hres : alikeGo [] l = alikeGo (put m x.key x.what) (l.drop (k + 1)) := by rw [HGO.out, hlk]
        have hrun : ∀ (W : World), World.mapAt W eKey w.heap.size (vals eEff m) → (Instr.lookup 54 (.map (some w.heap.size)) (.agg #[i64 x.key.id.r, i64 x.key.id.s, i64 x.key.ord, .bool x.key.undo]) true).run Try.prog W = .ok (.tuple #[.agg #[i64 0, i64 0, i64 0, i64 0, i64 0], .bool false]) W := fun W hW => by
          have := lookup_ok_run (enc := eKey) Try.underlying54 KTKey hW (zero30 W) x.key
          rw [look_vals, hlk] at this
          exact this
        have HRES := Lib.hid hres
        have HRUN := Lib.hid hrun
        clear hrun hres hlk
        go_wp2_with (first
          | (at_lookup; refine wpList_lookup_m rfl _ _ _ _ rfl (HRUN.out _ (mapAt_alloc HM.out _)) ?_)
          | (at_mapUpdate; refine wpList_update_m rfl _ _ _ _ rfl (HPUT.out _ (mapAt_alloc (mapAt_alloc HM.out _) _)) ?_; rintro w1 ⟨h1, h2⟩))
        go_roundw
        case rel => exact ⟨k + 1, by omega, by go_num, _, h1, HRES.out, ((H2.out.alloc H2.out.size _).alloc (by simp; exact Nat.le_succ_of_le H2.out.size) _).grown h2 (by simp; have := H2.out.size; omega) (fun j hj => by cases hj; exact Nat.le_refl _)⟩
        case measure => simp [intOf]; omega
      | some v =>
        have hrun : ∀ (W : World), World.mapAt W eKey w.heap.size (vals eEff m) → (Instr.lookup 54 (.map (some w.heap.size)) (.agg #[i64 x.key.id.r, i64 x.key.id.s, i64 x.key.ord, .bool x.key.undo]) true).run Try.prog W = .ok (.tuple #[.agg #[i64 v.kind, i64 v.a, i64 v.n, i64 v.ref.r, i64 v.ref.s], .bool true]) W := fun W hW => by
          have := lookup_ok_run (enc := eKey) Try.underlying54 KTKey hW (zero30 W) x.key
          rw [look_vals, hlk] at this
          exact this
        have HRUN := Lib.hid hrun
        clear hrun
        have hN : ∀ (b : Bool), decide (v = x.what) = b → ∀ (W : World), (binOp .neq 30 (.agg #[i64 v.kind, i64 v.a, i64 v.n, i64 v.ref.r, i64 v.ref.s]) (.agg #[i64 x.what.kind, i64 x.what.a, i64 x.what.n, i64 x.what.ref.r, i64 x.what.ref.s])).run Try.prog W = .ok (.bool (!b)) W := fun b hb W => by
          rw [run_neq_struct, ← hb]; exact congrArg (fun r => Result.andThen r _) (eqEff 9997 v x.what W)
        by_cases hv : v = x.what
        · have hN' := hN true (decide_eq_true hv)
          have hres : alikeGo [] l = alikeGo (put m x.key x.what) (l.drop (k + 1)) := by rw [HGO.out, hlk]; simp [hv]
          have HRES := Lib.hid hres
          clear hres hlk hv hN
          simp only [Bool.not_true] at hN'
          go_wp2_with (first
            | (at_lookup; refine wpList_lookup_m rfl _ _ _ _ rfl (HRUN.out _ (mapAt_alloc HM.out _)) ?_)
            | (at_mapUpdate; refine wpList_update_m rfl _ _ _ _ rfl (HPUT.out _ (mapAt_alloc (mapAt_alloc HM.out _) _)) ?_; rintro w1 ⟨h1, h2⟩))
          go_roundw
          case rel => exact ⟨k + 1, by omega, by go_num, _, h1, HRES.out, ((H2.out.alloc H2.out.size _).alloc (by simp; exact Nat.le_succ_of_le H2.out.size) _).grown h2 (by simp; have := H2.out.size; omega) (fun j hj => by cases hj; exact Nat.le_refl _)⟩
          case measure => simp [intOf]; omega
        · have hN' := hN false (decide_eq_false hv)
          have hres : alikeGo [] l = false := by rw [HGO.out, hlk]; simp [hv]
          have HRES := Lib.hid hres
          clear hres hlk hv hN
          simp only [Bool.not_false] at hN'
          go_wp2_with (first
            | (at_lookup; refine wpList_lookup_m rfl _ _ _ _ rfl (HRUN.out _ (mapAt_alloc HM.out _)) ?_)
            | (at_mapUpdate; refine wpList_update_m rfl _ _ _ _ rfl (HPUT.out _ (mapAt_alloc (mapAt_alloc HM.out _) _)) ?_; rintro w1 ⟨h1, h2⟩))
          go_ret
          exact ⟨by rw [HRES.out]; rfl, ((H2.out.alloc H2.out.size _).alloc (by simp; exact Nat.le_succ_of_le H2.out.size) _)⟩
    · have hk' : k = l.length := by omega
      subst hk'
      obtain ⟨m, hm, h1, h2⟩ := hinv
      have hres : alikeGo [] l = true := by rw [h1]; simp [alikeGo]
      have HRES := Lib.hid hres
      have H2 := Lib.hid h2
      clear hres h1 h2 hm
      go_wp2
      go_ret
      exact ⟨by rw [HRES.out]; rfl, H2.out⟩
end Go.Proofs.Yteddfmhlnahdjaa
