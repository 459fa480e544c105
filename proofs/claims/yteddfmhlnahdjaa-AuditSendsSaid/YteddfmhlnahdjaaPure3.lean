/- The plain laws of the second theorem: what audit.Spaced and Most compute is what the law's two loops compute. -/
import Derived.Test.YteddfmhlnahdjaaSpaced
import Derived.Test.YteddfmhlnahdjaaStk
namespace Go.Proofs.Yteddfmhlnahdjaa
open Go Go.RowKit

def lastT (ts : List Int) : Int := ts.getLast?.getD 0
def countAt (l : List GSent) (i : Nat) : List Int := match l[i]? with
  | some x => tries (l.take i) x.key
  | none => []
def nowAt (l : List GSent) (i : Nat) : Int := (l[i]?.map (·.now)).getD 0
def spacedOut (l : List GSent) (b m : Int) : Nat → Bool
  | 0 => true
  | i + 1 => spacedOut l b m i && (decide (((countAt l i).length : Int) < 1) || decide (dueP b m (countAt l i).length (lastT (countAt l i)) ≤ nowAt l i))
def mostOut (l : List GSent) : Nat → Int
  | 0 => 0
  | i + 1 => max (mostOut l i) (((countAt l i).length : Int) + 1)

theorem okT_snoc (b m : Int) (ts : List Int) (t : Int) : OkT b m (ts ++ [t]) (ts ++ [t]).length ↔ OkT b m ts ts.length ∧ (ts.length < 1 ∨ dueP b m ts.length (lastT ts) ≤ t) := by
  have hget : ∀ j, j < ts.length → (ts ++ [t]).getD j 0 = ts.getD j 0 := fun j hj => by
    simp [List.getD_eq_getElem?_getD, List.getElem?_append_left hj]
  have hlast : (ts ++ [t]).getD ts.length 0 = t := by simp [List.getD_eq_getElem?_getD]
  have hl : 1 ≤ ts.length → ts.getD (ts.length - 1) 0 = lastT ts := fun h => by
    rw [lastT, List.getLast?_eq_getElem?, List.getD_eq_getElem?_getD]
  unfold OkT
  rw [List.length_append, List.length_singleton]
  constructor
  · intro h
    refine ⟨fun j h1 h2 => ?_, ?_⟩
    · have := h j h1 (by omega)
      rwa [hget j h2, hget (j - 1) (by omega)] at this
    · by_cases h1 : ts.length < 1
      · exact .inl h1
      · have := h ts.length (by omega) (by omega)
        rw [hlast, hget _ (by omega), hl (by omega)] at this
        exact .inr this
  · rintro ⟨h, h'⟩ j h1 h2
    by_cases hj : j < ts.length
    · rw [hget j hj, hget (j - 1) (by omega)]; exact h j h1 hj
    · have : j = ts.length := by omega
      subst this
      rw [hlast, hget _ (by omega), hl h1]
      exact h'.resolve_left (by omega)

theorem take_get {l : List GSent} {i : Nat} (hi : i < l.length) : ∃ x, l[i]? = some x ∧ l.take (i + 1) = l.take i ++ [x] := ⟨l[i], by simp, take_snoc (by simp)⟩
theorem spacedOut_iff (l : List GSent) (b m : Int) : ∀ n, n ≤ l.length → (spacedOut l b m n = true ↔ ∀ k, OkT b m (tries (l.take n) k) (tries (l.take n) k).length)
  | 0, _ => by
    simp only [spacedOut, true_iff]
    intro k j h1 h2
    simp [tries] at h2
  | n + 1, hn => by
    obtain ⟨x, hx, ht⟩ := take_get (l := l) (i := n) (by omega)
    rw [spacedOut, Bool.and_eq_true, spacedOut_iff l b m n (by omega), Bool.or_eq_true, decide_eq_true_eq, decide_eq_true_eq]
    have hc : countAt l n = tries (l.take n) x.key := by rw [countAt, hx]
    have hw : nowAt l n = x.now := by rw [nowAt, hx]; rfl
    rw [hc, hw]
    constructor
    · rintro ⟨h1, h2⟩ k
      rw [ht, tries_snoc]
      by_cases hk : x.key = k
      · subst hk
        rw [if_pos rfl, okT_snoc]
        exact ⟨h1 _, h2.imp_left (by omega)⟩
      · rw [if_neg hk]; exact h1 k
    · intro h
      have hx1 := h x.key
      rw [ht, tries_snoc, if_pos rfl, okT_snoc] at hx1
      refine ⟨fun k => ?_, hx1.2.imp_left (by omega)⟩
      by_cases hk : x.key = k
      · subst hk; exact hx1.1
      · have := h k
        rwa [ht, tries_snoc, if_neg hk] at this

theorem has_put' (m : List (GKey × Value)) (k k' : GKey) (v : Value) : has (put m k v) k' = (decide (k = k') || has m k') := by
  unfold has
  rw [look_put]
  by_cases h : k = k' <;> simp [h]
theorem keysGo_mem : ∀ (l : List GSent) (m : List (GKey × Value)) (k : GKey), k ∈ keysGo m l ↔ has m k = false ∧ ∃ x ∈ l, x.key = k
  | [], m, k => by simp [keysGo]
  | x :: r, m, k => by
    rw [keysGo]
    by_cases h : has m x.key = true
    · rw [if_pos h, keysGo_mem r m k]
      refine and_congr_right fun hk => ⟨fun ⟨y, hy, e⟩ => ⟨y, by simp [hy], e⟩, ?_⟩
      rintro ⟨y, hy, e⟩
      rcases List.mem_cons.1 hy with rfl | hy
      · rw [e] at h; rw [h] at hk; cases hk
      · exact ⟨y, hy, e⟩
    · rw [if_neg h, List.mem_cons, keysGo_mem r _ k, has_put', Bool.or_eq_false_iff, decide_eq_false_iff_not]
      have h' : has m x.key = false := by simpa using h
      constructor
      · rintro (rfl | ⟨⟨h1, h2⟩, y, hy, e⟩)
        · exact ⟨h', x, by simp, rfl⟩
        · exact ⟨h2, y, by simp [hy], e⟩
      · rintro ⟨h1, y, hy, e⟩
        by_cases hk : x.key = k
        · exact .inl hk.symm
        · rcases List.mem_cons.1 hy with rfl | hy
          · exact absurd e hk
          · exact .inr ⟨⟨hk, h1⟩, y, hy, e⟩
theorem tries_nil {l : List GSent} {k : GKey} (h : ¬ ∃ x ∈ l, x.key = k) : tries l k = [] := by
  unfold tries
  rw [List.map_eq_nil_iff, List.filter_eq_nil_iff]
  intro x hx
  simp only [decide_eq_true_eq]
  exact fun e => h ⟨x, hx, e⟩
theorem spaced_same (l : List GSent) (b m : Int) : spacedP b m l (keysGo [] l) = spacedOut l b m l.length := by
  rw [Bool.eq_iff_iff, spacedOut_iff l b m _ (Nat.le_refl _), List.take_length]
  unfold spacedP
  rw [List.all_eq_true]
  constructor
  · intro h k
    by_cases hk : ∃ x ∈ l, x.key = k
    · exact (okT_iff b m _).1 (h k ((keysGo_mem l [] k).2 ⟨rfl, hk⟩))
    · rw [tries_nil hk]
      intro j h1 h2
      simp at h2
  · intro h k _
    exact (okT_iff b m _).2 (h k)

theorem mostOut_spec (l : List GSent) : ∀ n, n ≤ l.length → (∀ k, ((tries (l.take n) k).length : Int) ≤ mostOut l n) ∧ 0 ≤ mostOut l n ∧ (mostOut l n = 0 ∨ ∃ k, ((tries (l.take n) k).length : Int) = mostOut l n)
  | 0, _ => by simp [mostOut, tries]
  | n + 1, hn => by
    obtain ⟨x, hx, ht⟩ := take_get (l := l) (i := n) (by omega)
    have hc : countAt l n = tries (l.take n) x.key := by rw [countAt, hx]
    obtain ⟨h1, h2, h3⟩ := mostOut_spec l n (by omega)
    rw [mostOut, hc]
    refine ⟨fun k => ?_, by omega, ?_⟩
    · rw [ht, tries_snoc]
      have := h1 k
      by_cases hk : x.key = k
      · subst hk; rw [if_pos rfl, List.length_append, List.length_singleton]; omega
      · rw [if_neg hk]; omega
    · refine .inr ?_
      by_cases hge : mostOut l n ≤ ((tries (l.take n) x.key).length : Int) + 1
      · refine ⟨x.key, ?_⟩
        rw [ht, tries_snoc, if_pos rfl, List.length_append, List.length_singleton]
        omega
      · rcases h3 with h3 | ⟨k, h3⟩
        · omega
        · refine ⟨k, ?_⟩
          rw [ht, tries_snoc]
          by_cases hk : x.key = k
          · subst hk; omega
          · rw [if_neg hk]; omega
theorem mostP_spec (l : List GSent) : ∀ (ks : List GKey) (a : Int), 0 ≤ a → (∀ k ∈ ks, ((tries l k).length : Int) ≤ ks.foldl (fun m k => max m ((tries l k).length : Int)) a) ∧ a ≤ ks.foldl (fun m k => max m ((tries l k).length : Int)) a ∧
    (ks.foldl (fun m k => max m ((tries l k).length : Int)) a = a ∨ ∃ k ∈ ks, ((tries l k).length : Int) = ks.foldl (fun m k => max m ((tries l k).length : Int)) a)
  | [], a, _ => by simp
  | x :: r, a, h => by
    obtain ⟨h1, h2, h3⟩ := mostP_spec l r (max a ((tries l x).length : Int)) (by omega)
    rw [List.foldl_cons]
    refine ⟨fun k hk => ?_, by omega, ?_⟩
    · rcases List.mem_cons.1 hk with rfl | hk
      · omega
      · exact h1 k hk
    · rcases h3 with h3 | ⟨k, hk, h3⟩
      · by_cases hge : ((tries l x).length : Int) ≤ a
        · exact .inl (by omega)
        · exact .inr ⟨x, by simp, by omega⟩
      · exact .inr ⟨k, by simp [hk], h3⟩
theorem most_same (l : List GSent) : mostP l (keysGo [] l) = mostOut l l.length := by
  obtain ⟨a1, a2, a3⟩ := mostOut_spec l _ (Nat.le_refl _)
  obtain ⟨b1, b2, b3⟩ := mostP_spec l (keysGo [] l) 0 (Int.le_refl _)
  rw [List.take_length] at a1 a3
  refine Int.le_antisymm ?_ ?_
  · rcases b3 with b3 | ⟨k, _, b3⟩
    · show _ ≤ _
      unfold mostP
      omega
    · unfold mostP
      rw [← b3]; exact a1 k
  · rcases a3 with a3 | ⟨k, a3⟩
    · unfold mostP
      omega
    · rw [← a3]
      by_cases hk : ∃ x ∈ l, x.key = k
      · exact b1 k ((keysGo_mem l [] k).2 ⟨rfl, hk⟩)
      · rw [tries_nil hk]; unfold mostP; simpa using b2
end Go.Proofs.Yteddfmhlnahdjaa
