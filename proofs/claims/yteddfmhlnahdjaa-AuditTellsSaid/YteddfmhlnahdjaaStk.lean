/- What a map of stacks is good for: each key's slice owns its row, no two lie in one; how that is kept by a push, a pop and a delete. Plain facts, no walk. -/
import Derived.Test.YteddfmhlnahdjaaIndex
namespace Go.Proofs.Yteddfmhlnahdjaa
open Go Go.RowKit

section
variable {κ β : Type} [DecidableEq κ]
theorem look_nil (k : κ) : look ([] : List (κ × β)) k = none := rfl
theorem look_cons (p : κ × β) (r : List (κ × β)) (k : κ) : look (p :: r) k = if p.1 = k then some p.2 else look r k := by
  unfold look
  by_cases h : p.1 = k
  · simp [h]
  · simp [h, show (p.1 == k) = false by simpa using h]
theorem look_put (m : List (κ × β)) (k k' : κ) (v : β) : look (put m k v) k' = if k = k' then some v else look m k' := by
  induction m with
  | nil => simp [put, look_cons, look_nil]
  | cons p r ih =>
    unfold put
    by_cases h : p.1 = k
    · rw [if_pos h, look_cons, look_cons]
      by_cases hk : k = k'
      · simp [hk]
      · simp only [if_neg hk]
        rw [if_neg (by rw [h]; exact hk)]
    · rw [if_neg h, look_cons, look_cons, ih]
      by_cases hk : p.1 = k'
      · rw [if_pos hk, if_pos hk, if_neg (by intro e; exact h (hk.trans e.symm))]
      · rw [if_neg hk, if_neg hk]
theorem keys_put (m : List (κ × β)) (k : κ) (v : β) : (put m k v).map (·.1) = if k ∈ m.map (·.1) then m.map (·.1) else m.map (·.1) ++ [k] := by
  induction m with
  | nil => simp [put]
  | cons p r ih =>
    unfold put
    by_cases h : p.1 = k
    · simp [h]
    · simp only [if_neg h, List.map_cons, ih, List.mem_cons]
      by_cases hm : k ∈ r.map (·.1)
      · simp [hm]
      · simp [hm, show ¬ k = p.1 from fun e => h e.symm]
theorem nodup_put {m : List (κ × β)} (h : (m.map (·.1)).Nodup) (k : κ) (v : β) : ((put m k v).map (·.1)).Nodup := by
  rw [keys_put]
  split
  · exact h
  · rename_i hn
    exact List.nodup_append.2 ⟨h, by simp, by intro a ha b hb; simp at hb; subst hb; intro e; subst e; exact hn ha⟩
theorem look_mem {m : List (κ × β)} {k : κ} {v : β} (h : look m k = some v) : k ∈ m.map (·.1) := by
  induction m with
  | nil => cases h
  | cons p r ih =>
    rw [look_cons] at h
    by_cases hp : p.1 = k
    · simp [hp]
    · rw [if_neg hp] at h; simp [ih h]
theorem look_none {m : List (κ × β)} {k : κ} (h : k ∉ m.map (·.1)) : look m k = none := by
  cases hl : look m k with
  | none => rfl
  | some v => exact absurd (look_mem hl) h
theorem look_del {m : List (κ × β)} (hn : (m.map (·.1)).Nodup) (k k' : κ) : look (del m k) k' = if k = k' then none else look m k' := by
  induction m with
  | nil => simp [del, look_nil]
  | cons p r ih =>
    simp only [List.map_cons, List.nodup_cons] at hn
    unfold del
    by_cases h : p.1 = k
    · rw [if_pos h, look_cons]
      by_cases hk : k = k'
      · rw [if_pos hk]
        exact look_none (by rw [← hk, ← h]; exact hn.1)
      · rw [if_neg hk, if_neg (by rw [h]; exact hk)]
    · rw [if_neg h, look_cons, look_cons, ih hn.2]
      by_cases hk : p.1 = k'
      · rw [if_pos hk, if_pos hk, if_neg (by intro e; exact h (hk.trans e.symm))]
      · rw [if_neg hk, if_neg hk]
theorem keys_del_sub (m : List (κ × β)) (k : κ) : ((del m k).map (·.1)).Sublist (m.map (·.1)) := by
  induction m with
  | nil => simp [del]
  | cons p r ih =>
    unfold del
    split
    · simp
    · simpa using ih
theorem nodup_del {m : List (κ × β)} (h : (m.map (·.1)).Nodup) (k : κ) : ((del m k).map (·.1)).Nodup := h.sublist (keys_del_sub m k)
end

def nilV : Value := .slice none 0 0
structure Stk (w : World) (B k : Nat) (m : List (GId × Value)) (M : List (GId × List GKey)) : Prop where
  both : ∀ id, (look m id = none ∧ look M id = none) ∨ ∃ v ks, look m id = some v ∧ look M id = some ks ∧ w.ownsRow B 28 4 v ks.length (ks.flatMap cKey) ∧ ks.length ≤ k
  apart : ∀ id id' v v', id ≠ id' → look m id = some v → look m id' = some v' → v.ownBlock = none ∨ v.ownBlock ≠ v'.ownBlock
  nd : (m.map (·.1)).Nodup
  ND : (M.map (·.1)).Nodup

theorem Stk.start (w : World) (B : Nat) : Stk w B 0 [] [] := ⟨fun _ => .inl ⟨rfl, rfl⟩, (fun _ _ _ _ _ h => by cases h), by simp, by simp⟩

theorem Stk.get {w : World} {B k : Nat} {m : List (GId × Value)} {M : List (GId × List GKey)} (h : Stk w B k m M) (id : GId) :
    ∃ A c, (look m id).getD nilV = .slice A ((look M id).getD []).length c ∧ ((look M id).getD []).length ≤ k ∧
      w.ownsRow B 28 4 (.slice A ((look M id).getD []).length c) ((look M id).getD []).length (((look M id).getD []).flatMap cKey) ∧
      ∀ id' v', id' ≠ id → look m id' = some v' → v'.ownBlock = none ∨ v'.ownBlock ≠ (Value.slice A ((look M id).getD []).length c).ownBlock := by
  rcases h.both id with ⟨h1, h2⟩ | ⟨v, ks, h1, h2, h3, h4⟩
  · refine ⟨none, 0, by rw [h1, h2]; rfl, by rw [h2]; exact Nat.zero_le _, by rw [h2]; exact World.ownsRow_nil w B 28 4, fun id' v' _ _ => ?_⟩
    cases hv : v'.ownBlock with
    | none => exact .inl rfl
    | some g => right; simp [Value.ownBlock]
  · have hf : ∃ A c, v = .slice A ks.length c := by
      rcases h3.2 with ⟨rfl, h0⟩ | ⟨g, cap, cur, rfl, _⟩
      · exact ⟨none, 0, by rw [h0]⟩
      · exact ⟨_, _, rfl⟩
    obtain ⟨A, c, rfl⟩ := hf
    refine ⟨A, c, by rw [h1, h2]; rfl, by rw [h2]; exact h4, by rw [h2]; exact h3, fun id' v' hne hv' => ?_⟩
    rw [h2]
    exact h.apart id' id v' _ hne hv' h1

theorem Stk.keep {w w' : World} {B k k' : Nat} {m : List (GId × Value)} {M : List (GId × List GKey)} (h : Stk w B k m M) (hk : k ≤ k')
    (hkeep : ∀ v n xs, w.ownsRow B 28 4 v n xs → w'.ownsRow B 28 4 v n xs) : Stk w' B k' m M :=
  ⟨fun id => (h.both id).imp (fun h => h) (fun ⟨v, ks, h1, h2, h3, h4⟩ => ⟨v, ks, h1, h2, hkeep _ _ _ h3, Nat.le_trans h4 hk⟩), h.apart, h.nd, h.ND⟩

theorem Stk.put {w w' : World} {B k k' : Nat} {m : List (GId × Value)} {M : List (GId × List GKey)} (h : Stk w B k m M) (hk : k ≤ k') (id : GId) {v' : Value} {ks' : List GKey}
    (hown : w'.ownsRow B 28 4 v' ks'.length (ks'.flatMap cKey)) (hl : ks'.length ≤ k')
    (hkeep : ∀ id' u n xs, id' ≠ id → look m id' = some u → w.ownsRow B 28 4 u n xs → w'.ownsRow B 28 4 u n xs)
    (hdis : ∀ id' u, id' ≠ id → look m id' = some u → u.ownBlock = none ∨ u.ownBlock ≠ v'.ownBlock) : Stk w' B k' (put m id v') (put M id ks') := by
  refine ⟨fun id' => ?_, fun id1 id2 v1 v2 hne h1 h2 => ?_, nodup_put h.nd _ _, nodup_put h.ND _ _⟩
  · rw [look_put, look_put]
    by_cases he : id = id'
    · rw [if_pos he, if_pos he]
      exact .inr ⟨v', ks', rfl, rfl, hown, hl⟩
    · rw [if_neg he, if_neg he]
      exact (h.both id').imp (fun h => h) (fun ⟨v, ks, h1, h2, h3, h4⟩ => ⟨v, ks, h1, h2, hkeep id' v _ _ (fun e => he e.symm) h1 h3, Nat.le_trans h4 hk⟩)
  · rw [look_put] at h1 h2
    by_cases e1 : id = id1
    · subst e1
      rw [if_pos rfl] at h1
      rw [if_neg hne] at h2
      cases h1
      rcases hdis id2 v2 (fun e => hne e.symm) h2 with hd | hd
      · cases hv : v'.ownBlock with
        | none => exact .inl rfl
        | some g => right; rw [hd]; simp
      · exact .inr (fun e => hd e.symm)
    · rw [if_neg e1] at h1
      by_cases e2 : id = id2
      · subst e2
        rw [if_pos rfl] at h2
        cases h2
        exact hdis id1 v1 (fun e => e1 e.symm) h1
      · rw [if_neg e2] at h2
        exact h.apart id1 id2 v1 v2 hne h1 h2

theorem Stk.del {w w' : World} {B k : Nat} {m : List (GId × Value)} {M : List (GId × List GKey)} (h : Stk w B k m M) (id : GId)
    (hkeep : ∀ v n xs, w.ownsRow B 28 4 v n xs → w'.ownsRow B 28 4 v n xs) : Stk w' B k (del m id) (del M id) := by
  refine ⟨fun id' => ?_, fun id1 id2 v1 v2 hne h1 h2 => ?_, nodup_del h.nd _, nodup_del h.ND _⟩
  · rw [look_del h.nd, look_del h.ND]
    by_cases he : id = id'
    · simp [he]
    · rw [if_neg he, if_neg he]
      exact (h.both id').imp (fun h => h) (fun ⟨v, ks, h1, h2, h3, h4⟩ => ⟨v, ks, h1, h2, hkeep _ _ _ h3, h4⟩)
  · rw [look_del h.nd] at h1 h2
    split at h1
    · cases h1
    · split at h2
      · cases h2
      · exact h.apart id1 id2 v1 v2 hne h1 h2

/-- a row is no map's block -/
theorem own_ne_map {κ : Type} {w : World} {enc : κ → Value} {b : Nat} {m : List (κ × Value)} (hm : World.mapAt w enc b m) {base : Nat} {e : TypeId} {size n : Nat} {v : Value} {xs : List Value} (h : w.ownsRow base e size v n xs) : v.ownBlock = none ∨ v.ownBlock ≠ some b := by
  rcases h.2 with ⟨rfl, _⟩ | ⟨g, cap, cur, rfl, _, hg, _⟩
  · exact .inl rfl
  · right
    intro e
    obtain ⟨es, clock, hb, _⟩ := hm
    have : g = b := by simpa [Value.ownBlock] using e
    subst this
    rw [hg] at hb
    cases hb

theorem own_drew {w : World} {base : Nat} {e : TypeId} {size n : Nat} {v : Value} {xs : List Value} (h : w.ownsRow base e size v n xs) : w.drew.ownsRow base e size v n xs := h

/-- a push: behind the append (world w1) and the store (world w2) -/
theorem push_done {W w1 w2 : World} {bm k : Nat} {m : List (GId × Value)} {M : List (GId × List GKey)} (hm : World.mapAt W eId bm m) (hs : Stk W (bm + 1) k m M) (id : GId) (key : GKey) {A0 : Option Addr} {cp : Nat} {ks : List GKey}
    (hks : ks.length ≤ k) (hown : W.ownsRow (bm + 1) 28 4 (.slice A0 ks.length cp) ks.length (ks.flatMap cKey))
    (hap : ∀ id' v', id' ≠ id → look m id' = some v' → v'.ownBlock = none ∨ v'.ownBlock ≠ (Value.slice A0 ks.length cp).ownBlock)
    {g cap H : Nat} (h1 : w1.ownsRow (bm + 1) 28 4 (.slice (some ⟨g, 0, none⟩) (ks.length + 1) cap) (ks.length + 1) (ks.flatMap cKey ++ cKey key))
    (hg1 : W.grownBy w1 (Value.slice A0 ks.length cp).ownBlock) (hat : (Value.slice A0 ks.length cp).ownBlock = some g ∨ g = H) (hH : W.heap.size ≤ H)
    (hg2 : w1.grownBy w2 (some bm)) : Stk w2 (bm + 1) (k + 1) (put m id (.slice (some ⟨g, 0, none⟩) (ks.length + 1) cap)) (put M id (ks ++ [key])) := by
  have hm1 : World.mapAt w1 eId bm m := mapAt_grown hm hg1 (by
    rcases own_ne_map hm hown with h | h
    · rw [h]; simp
    · exact fun e => h e.symm)
  have kept2 : ∀ {u n xs}, w1.ownsRow (bm + 1) 28 4 u n xs → w2.ownsRow (bm + 1) 28 4 u n xs := fun h => h.kept hg2 (own_ne_map hm1 h)
  refine hs.put (Nat.le_succ _) id ?_ (by simp; omega) (fun id' u n xs hne hl ho => kept2 (ho.kept hg1 (hap id' u hne hl))) (fun id' u hne hl => ?_)
  · have := kept2 h1
    simpa using this
  · rcases hs.both id' with ⟨h0, _⟩ | ⟨v, ks', h0, _, h3, _⟩
    · rw [h0] at hl; cases hl
    · rw [h0] at hl; cases hl
      rcases hat with hat | hat
      · have := hap id' u hne h0
        rwa [hat] at this
      · cases hu : u.ownBlock with
        | none => exact .inl rfl
        | some j =>
          right
          have := (h3.lt j hu).2
          intro e
          have : j = g := by simpa [Value.ownBlock] using e
          omega

theorem flat_len (ks : List GKey) : (ks.flatMap cKey).length = ks.length * 4 := by
  induction ks with
  | nil => rfl
  | cons x r ih =>
    rw [List.flatMap_cons, List.length_append, ih, List.length_cons]
    show 4 + r.length * 4 = _
    omega

/-- a pop: behind the store of the shorter slice -/
theorem pop_done {W w2 : World} {bm k : Nat} {m : List (GId × Value)} {M : List (GId × List GKey)} (hm : World.mapAt W eId bm m) (hs : Stk W (bm + 1) k m M) (id : GId) {g cp : Nat} {ks : List GKey} {key : GKey}
    (hks : ks.length + 1 ≤ k) (hown : W.ownsRow (bm + 1) 28 4 (.slice (some ⟨g, 0, none⟩) (ks.length + 1) cp) (ks.length + 1) (ks.flatMap cKey ++ cKey key))
    (hap : ∀ id' v', id' ≠ id → look m id' = some v' → v'.ownBlock = none ∨ v'.ownBlock ≠ some g)
    (hg2 : W.grownBy w2 (some bm)) : Stk w2 (bm + 1) (k + 1) (put m id (.slice (some ⟨g, 0, none⟩) ks.length cp)) (put M id ks) := by
  have kept2 : ∀ {u n xs}, W.ownsRow (bm + 1) 28 4 u n xs → w2.ownsRow (bm + 1) 28 4 u n xs := fun h => h.kept hg2 (own_ne_map hm h)
  exact hs.put (Nat.le_succ _) id (kept2 (ownsRow_pop (flat_len ks) hown)) (by omega) (fun id' u n xs hne hl ho => kept2 ho) (fun id' u hne hl => by simpa [Value.ownBlock] using hap id' u hne hl)
end Go.Proofs.Yteddfmhlnahdjaa
