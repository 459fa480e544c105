/- The walks of tally.first and audit.Once: for every list that can be read. -/
import Derived.Test.YteddfmhlnahdjaaLaws
namespace Go.Proofs.Yteddfmhlnahdjaa
open Go Go.RowKit

theorem zero4 (w : World) : (zeroValue 4).run Try.prog w = .ok (.bool false) w := by kernel_rfl

def has (m : List (GKey × Value)) (k : GKey) : Bool := (look m k).isSome
theorem look_true {m : List (GKey × Value)} (hv : ∀ p ∈ m, p.2 = .bool true) (k : GKey) : (look m k).getD (.bool false) = .bool (has m k) := by
  unfold has look
  cases h : m.find? (fun p => p.1 == k) with
  | none => rfl
  | some p => simp [hv p (List.mem_of_find?_eq_some h)]
theorem put_true {m : List (GKey × Value)} (hv : ∀ p ∈ m, p.2 = .bool true) (k : GKey) : ∀ p ∈ put m k (.bool true), p.2 = .bool true := by
  induction m with
  | nil => intro p hp; simp [put] at hp; simp [hp]
  | cons q r ih =>
    intro p hp
    unfold put at hp
    split at hp
    · rcases List.mem_cons.1 hp with rfl | hp
      · rfl
      · exact hv p (by simp [hp])
    · rcases List.mem_cons.1 hp with rfl | hp
      · exact hv _ (by simp)
      · exact ih (fun p hp => hv p (by simp [hp])) p hp

def FirstPost (b : Nat) (m : List (GKey × Value)) (k : GKey) (w : World) (e : Ending) (w' : World) : Prop :=
  e = .returned (.bool (!has m k)) ∧ World.mapAt w' eKey b (put m k (.bool true)) ∧ w.grownBy w' (some b)
theorem first_calls (b : Nat) (m : List (GKey × Value)) (k : GKey) (w : World) (hm : World.mapAt w eKey b m) (hv : ∀ p ∈ m, p.2 = .bool true) :
    Calls Try.prog 18 #[.map (some b), eKey k] w (FirstPost b m k w) := by
  have HM := Lib.hid hm
  have HV := Lib.hid hv
  clear hm hv
  show Calls Try.prog 18 #[.map (some b), .agg #[i64 k.id.r, i64 k.id.s, i64 k.ord, .bool k.undo]] w (FirstPost b m k w)
  go_enter Try.func18, Try.ntmps18
  go_wp2_with (first
    | (at_lookup; refine wpList_lookup_m rfl _ _ _ _ rfl (lookup_run (enc := eKey) Try.underlying48 KTKey (mapAt_alloc HM.out _) (zero4 _) k) ?_; rw [look_true HV.out])
    | (at_mapUpdate; refine wpList_update_m rfl _ _ _ _ rfl (mapUpdate_run (enc := eKey) Try.underlying48 KTKey (mapAt_alloc HM.out _) k (.bool true)) ?_; rintro w1 ⟨h1, h2⟩))
  go_ret
  exact ⟨rfl, h1, ((World.grownBy_alloc w _ _).trans h2)⟩

def onceGo (m : List (GKey × Value)) : List GReq → Bool
  | [] => true
  | q :: r => if has m q.key then false else onceGo (put m q.key (.bool true)) r
def OncePost (l : List GReq) (w : World) (e : Ending) (w' : World) : Prop := e = .returned (.bool (onceGo [] l)) ∧ Below w.heap.size w w'
def OnceInv (l : List GReq) (w : World) (b : Nat) (k : Nat) (wr : World) : Prop :=
  ∃ m, World.mapAt wr eKey b m ∧ (∀ p ∈ m, p.2 = .bool true) ∧ onceGo [] l = onceGo m (l.drop k) ∧ Below w.heap.size w wr

theorem drop_at {α : Type} {l : List α} {k : Nat} {x : α} (h : l[k]? = some x) : l.drop k = x :: l.drop (k + 1) := by
  obtain ⟨hk, rfl⟩ := List.getElem?_eq_some_iff.1 h
  exact List.drop_eq_getElem_cons hk

theorem once_calls (A : Option Addr) (c : Nat) (l : List GReq) (w : World) (hr : RowAt cReq 9 w A l) :
    Calls Try.prog 8 #[.slice A l.length c] w (OncePost l w) := by
  have HR := Lib.hid hr
  have hlen : l.length ≤ 9223372036854775807 := hr.1
  clear hr
  have hmm := @run_makeMap Try.prog
  go_enter Try.func8, Try.ntmps8
  go_wp2
  go_loopw [9] (fun i wr => ∃ k : Nat, k ≤ l.length ∧ i = .int .i64 k ∧ Hid (OnceInv l w w.heap.size k wr)) (fun i _ => l.length - (intOf i).toNat)
  case atStart => exact ⟨0, Nat.zero_le _, rfl, [], mapAt_made _ _, by simp, rfl, (Below.refl _ _).alloc (Nat.le_refl _) _⟩
  case round =>
    obtain ⟨k, hk, rfl, hinv⟩ := hrel
    by_cases hlt : k < l.length
    · obtain ⟨q, hq⟩ : ∃ q, l[k]? = some q := ⟨l[k], by simp [hlt]⟩
      obtain ⟨ad, rfl, hcell⟩ := HR.out.2 k q hq
      have HC := Lib.hid hcell
      have HQ := Lib.hid hq
      clear hcell hq
      obtain ⟨m, hm, hv, ho, hb⟩ := hinv
      have HM := Lib.hid hm
      have HV := Lib.hid hv
      have HO := Lib.hid ho
      have HB := Lib.hid hb
      clear hm hv ho hb
      have hcs : ∀ j v, [i64 q.key.id.r, i64 q.key.id.s, i64 q.key.ord, .bool q.key.undo, i64 q.what.kind, i64 q.what.a, i64 q.what.n, i64 q.what.ref.r, i64 q.what.ref.s][j]? = some v → wr.cell? ((ad.add (k * 9)).add j) = some v := fun j v h => (HB.out.cell (World.block_lt_of_cell? w _ (HC.out j v h))).trans (HC.out j v h)
      have HCS := Lib.hid hcs
      clear hcs
      go_wp2_with (first
        | (refine wpList_load_at rfl 32 _ rfl rfl Try.underlying32 s32 (cs := [i64 q.key.id.r, i64 q.key.id.s, i64 q.key.ord, .bool q.key.undo, i64 q.what.kind, i64 q.what.a, i64 q.what.n, i64 q.what.ref.r, i64 q.what.ref.s]) rfl HCS.out ?_)
        | (go_at_call 18; refine (first_calls w.heap.size m q.key _ (mapAt_alloc HM.out _) HV.out).mono ?_; rintro e w1 ⟨rfl, h1, h2⟩))
      · rename_i hh
        have hd : l.drop k = q :: l.drop (k + 1) := drop_at HQ.out
        have hres : onceGo [] l = false := by rw [HO.out, hd, onceGo, hh]; rfl
        have HRES := Lib.hid hres
        clear hd hres
        go_ret
        exact ⟨by rw [HRES.out]; rfl, (HB.out.alloc HB.out.size _).grown h2 (Nat.le_trans HB.out.size (by simp)) (fun j hj => by cases hj; exact Nat.le_refl _)⟩
      · rename_i hh
        have hd : l.drop k = q :: l.drop (k + 1) := drop_at HQ.out
        go_roundw
        case rel =>
          refine ⟨k + 1, by omega, by go_num, put m q.key (.bool true), h1, put_true HV.out _, ?_, (HB.out.alloc HB.out.size _).grown h2 (Nat.le_trans HB.out.size (by simp)) (fun j hj => by cases hj; exact Nat.le_refl _)⟩
          rw [HO.out, hd, onceGo, hh]; rfl
        case measure => simp [intOf]; omega
    · have hk' : k = l.length := by omega
      subst hk'
      obtain ⟨m, hm, hv, ho, hb⟩ := hinv
      have hres : onceGo [] l = true := by rw [ho]; simp [onceGo]
      have HRES := Lib.hid hres
      have HB := Lib.hid hb
      clear hres ho hb hm hv
      go_wp2
      go_ret
      exact ⟨by rw [HRES.out]; rfl, HB.out⟩
end Go.Proofs.Yteddfmhlnahdjaa
