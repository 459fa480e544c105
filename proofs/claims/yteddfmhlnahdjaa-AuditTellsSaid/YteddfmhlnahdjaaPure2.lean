/- The plain law of audit.Stacked: the map of stacks tells what the law's list of those that are gone tells. -/
import Derived.Test.YteddfmhlnahdjaaLawst
import Derived.Test.YteddfmhlnahdjaaStacked
namespace Go.Proofs.Yteddfmhlnahdjaa
open Go Go.RowKit

def alive? (gone : List Bool) (id : GId) (k : Nat) (q : GReq) : Prop := q.key.id = id ∧ q.key.undo = false ∧ gone[k]? = some false
instance (gone : List Bool) (id : GId) (k : Nat) (q : GReq) : Decidable (alive? gone id k q) := by unfold alive?; infer_instance
def stackOf (l : List GReq) (gone : List Bool) (id : GId) : Nat → List GKey
  | 0 => []
  | k + 1 => match l[k]? with
    | some q => if alive? gone id k q then stackOf l gone id k ++ [q.key] else stackOf l gone id k
    | none => stackOf l gone id k

theorem last_or (l : List GReq) (gone : List Bool) (id : GId) : ∀ k, (lastOf l gone id k = -1 ∧ stackOf l gone id k = []) ∨
    ∃ (j : Nat) (y : GReq), j < k ∧ lastOf l gone id k = (j : Int) ∧ l[j]? = some y ∧ alive? gone id j y ∧ stackOf l gone id k = stackOf l gone id j ++ [y.key] ∧ (∀ i x, j < i → i < k → l[i]? = some x → ¬ alive? gone id i x)
  | 0 => .inl ⟨rfl, rfl⟩
  | k + 1 => by
    have ih := last_or l gone id k
    rw [lastOf, stackOf]
    cases hx : l[k]? with
    | none =>
      dsimp only
      rcases ih with h | ⟨j, y, h1, h2, h3, h4, h5, h6⟩
      · exact .inl h
      · refine .inr ⟨j, y, by omega, h2, h3, h4, h5, fun i x hi hk hix => ?_⟩
        by_cases e : i = k
        · subst e; rw [hx] at hix; cases hix
        · exact h6 i x hi (by omega) hix
    | some q =>
      dsimp only
      by_cases ha : alive? gone id k q
      · rw [if_pos (show _ ∧ _ ∧ _ from ha), if_pos ha]
        exact .inr ⟨k, q, by omega, rfl, hx, ha, rfl, fun i x hi hk => by omega⟩
      · rw [if_neg (show ¬ (_ ∧ _ ∧ _) from ha), if_neg ha]
        rcases ih with h | ⟨j, y, h1, h2, h3, h4, h5, h6⟩
        · exact .inl h
        · refine .inr ⟨j, y, by omega, h2, h3, h4, h5, fun i x hi hk hix => ?_⟩
          by_cases e : i = k
          · subst e; rw [hx] at hix; cases hix; exact ha
          · exact h6 i x hi (by omega) hix

theorem alive_set {gone : List Bool} {id : GId} {i j : Nat} {q : GReq} (h : i ≠ j) : alive? (gone.set j true) id i q ↔ alive? gone id i q := by
  unfold alive?
  rw [List.getElem?_set_ne (Ne.symm h)]
theorem not_alive_set {gone : List Bool} {id : GId} {j : Nat} {q : GReq} : ¬ alive? (gone.set j true) id j q := by
  unfold alive?
  rintro ⟨_, _, h⟩
  rw [List.getElem?_set_self'] at h
  cases hg : gone[j]? with
  | none => rw [hg] at h; cases h
  | some b => rw [hg] at h; cases h
theorem stack_set_below (l : List GReq) (gone : List Bool) (id : GId) (j : Nat) : ∀ k, k ≤ j → stackOf l (gone.set j true) id k = stackOf l gone id k
  | 0, _ => rfl
  | k + 1, h => by
    rw [stackOf, stackOf, stack_set_below l gone id j k (by omega)]
    cases l[k]? with
    | none => rfl
    | some q =>
      dsimp only
      by_cases ha : alive? gone id k q
      · rw [if_pos ha, if_pos ((alive_set (by omega)).2 ha)]
      · rw [if_neg ha, if_neg (fun h' => ha ((alive_set (by omega)).1 h'))]
theorem stack_set_same {l : List GReq} {gone : List Bool} {id : GId} {j : Nat} {n : Nat} (hno : ∀ i x, j < i → i < n → l[i]? = some x → ¬ alive? gone id i x) : ∀ k, j ≤ k → k ≤ n → stackOf l (gone.set j true) id k = stackOf l gone id j
  | 0, h, _ => by
    have : j = 0 := by omega
    subst this; rfl
  | k + 1, h, hn => by
    by_cases e : j = k + 1
    · subst e; exact stack_set_below l gone id _ _ (Nat.le_refl _)
    · rw [stackOf, stack_set_same hno k (by omega) (by omega)]
      cases hx : l[k]? with
      | none => rfl
      | some q =>
        dsimp only
        by_cases e : k = j
        · subst e; rw [if_neg not_alive_set]
        · rw [if_neg (fun h' => hno k q (by omega) (by omega) hx ((alive_set e).1 h'))]
theorem stack_set_other {l : List GReq} {gone : List Bool} {id id' : GId} {j : Nat} {y : GReq} (hy : l[j]? = some y) (hid : y.key.id = id) (hne : id ≠ id') : ∀ k, stackOf l (gone.set j true) id' k = stackOf l gone id' k
  | 0 => rfl
  | k + 1 => by
    rw [stackOf, stackOf, stack_set_other hy hid hne k]
    cases hx : l[k]? with
    | none => rfl
    | some q =>
      dsimp only
      by_cases e : k = j
      · subst e
        rw [hy] at hx
        cases hx
        rw [if_neg not_alive_set, if_neg (fun h => hne (hid.symm.trans h.1))]
      · by_cases ha : alive? gone id' k q
        · rw [if_pos ha, if_pos ((alive_set e).2 ha)]
        · rw [if_neg ha, if_neg (fun h' => ha ((alive_set e).1 h'))]

theorem stacked_same_go (l : List GReq) : ∀ (r : List GReq) (k : Nat) (M : List (GId × List GKey)) (gone : List Bool), r = l.drop k → gone.length = l.length → (∀ j, k ≤ j → j < l.length → gone[j]? = some false) →
    (M.map (·.1)).Nodup → (∀ id, (look M id).getD [] = stackOf l gone id k) → stackedGo M r = lawGo l gone k r
  | [], k, M, gone, _, _, _, _, _ => rfl
  | q :: r, k, M, gone, hr, hg, hf, hn, hs => by
    have hk : k < l.length := by have := congrArg List.length hr; simp at this; omega
    have hq : l[k]? = some q := by
      have := congrArg (fun x => x[0]?) hr
      simpa using this.symm
    have hr' : r = l.drop (k + 1) := by
      have := congrArg List.tail hr
      simpa using this
    rw [stackedGo, lawGo]
    rw [hs q.key.id]
    cases hu : q.key.undo with
    | false =>
      rw [if_pos rfl, if_neg (by decide)]
      refine stacked_same_go l r (k + 1) _ gone hr' hg (fun j h1 h2 => hf j (by omega) h2) (nodup_put hn _ _) fun id => ?_
      rw [look_put, stackOf, hq]
      dsimp only
      by_cases e : q.key.id = id
      · rw [if_pos e, if_pos ⟨e, hu, hf k (Nat.le_refl _) hk⟩, e]; rfl
      · rw [if_neg e, if_neg (fun h => e h.1)]; exact hs id
    | true =>
      rw [if_neg (by decide), if_pos rfl]
      have hstep : ∀ (gone' : List Bool) (id : GId), stackOf l gone' id (k + 1) = stackOf l gone' id k := fun gone' id => by
        rw [stackOf, hq]
        dsimp only
        rw [if_neg (fun h => by have := h.2.1; rw [hu] at this; cases this)]
      rcases last_or l gone q.key.id k with ⟨h1, h2⟩ | ⟨j, y, h1, h2, h3, h4, h5, h6⟩
      · rw [h1, h2, if_pos (by simp), if_pos (by decide)]
      · rw [h2, h5, if_neg (show ¬ ((j : Int) < 0) by omega), Int.toNat_natCast]
        have hky : keyIs l j (other q.key) = decide (y.key = other q.key) := by rw [keyIs, h3]
        rw [hky]
        by_cases hk2 : y.key = other q.key
        · rw [if_neg (by simp [hk2]), decide_eq_true hk2, if_pos rfl]
          have hg' : (gone.set j true).length = l.length := by rw [List.length_set]; exact hg
          have hf' : ∀ i, k + 1 ≤ i → i < l.length → (gone.set j true)[i]? = some false := fun i hi1 hi2 => by
            rw [List.getElem?_set_ne (by omega)]; exact hf i (by omega) hi2
          have hsame : ∀ id, q.key.id ≠ id → (look M id).getD [] = stackOf l (gone.set j true) id (k + 1) := fun id hne => by
            rw [hstep, stack_set_other h3 h4.1 hne, hs id]
          have hown : stackOf l (gone.set j true) q.key.id (k + 1) = stackOf l gone q.key.id j := by
            rw [hstep]; exact stack_set_same h6 k (by omega) (Nat.le_refl _)
          rw [List.dropLast_concat]
          by_cases h1' : (stackOf l gone q.key.id j ++ [y.key]).length = 1
          · rw [if_pos h1']
            refine stacked_same_go l r (k + 1) _ _ hr' hg' hf' (nodup_del (nodup_put hn _ _) _) fun id => ?_
            rw [look_del (nodup_put hn _ _)]
            by_cases e : q.key.id = id
            · rw [if_pos e, ← e, hown]
              have : stackOf l gone q.key.id j = [] := List.eq_nil_of_length_eq_zero (by simp at h1'; simpa using h1')
              rw [this]; rfl
            · rw [if_neg e, look_put, if_neg e]; exact hsame id e
          · rw [if_neg h1']
            refine stacked_same_go l r (k + 1) _ _ hr' hg' hf' (nodup_put hn _ _) fun id => ?_
            rw [look_put]
            by_cases e : q.key.id = id
            · rw [if_pos e, ← e, hown]; rfl
            · rw [if_neg e]; exact hsame id e
        · rw [if_pos (by simpa using hk2), decide_eq_false hk2]; rfl
theorem stacked_same (l : List GReq) : stackedGo [] l = lawGo l (List.replicate l.length false) 0 l :=
  stacked_same_go l l 0 [] _ rfl (by simp) (fun j _ h => by simp [h]) (by simp) (fun _ => rfl)
end Go.Proofs.Yteddfmhlnahdjaa
