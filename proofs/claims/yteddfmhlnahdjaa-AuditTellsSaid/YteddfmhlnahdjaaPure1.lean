/- The plain laws of the first theorem: what audit.Once, Sound and Alike compute is what the law's two loops compute. -/
import Derived.Test.YteddfmhlnahdjaaLawst
import Derived.Test.YteddfmhlnahdjaaAlike
import Derived.Test.YteddfmhlnahdjaaStacked
namespace Go.Proofs.Yteddfmhlnahdjaa
open Go Go.RowKit

def keyAt (l : List GReq) (i : Nat) : Option GKey := l[i]?.map (·.key)
def whatAt (l : List GReq) (i : Nat) : Option GEff := l[i]?.map (·.what)
def onceIn (l : List GReq) (i : Nat) (o : Bool) : Nat → Bool
  | 0 => o
  | k + 1 => onceIn l i o k && (decide (k = i) || !decide (keyAt l k = keyAt l i))
def alikeIn (l : List GReq) (i : Nat) (o : Bool) : Nat → Bool
  | 0 => o
  | k + 1 => alikeIn l i o k && (!decide (keyAt l k = keyAt l i) || decide (whatAt l k = whatAt l i))
def doneIn (l : List GReq) (i : Nat) (o : Bool) : Nat → Bool
  | 0 => o
  | k + 1 => doneIn l i o k || (decide (k < i) && decide (keyAt l k = (keyAt l i).map other) && decide (whatAt l k = whatAt l i))
def undoAt (l : List GReq) (i : Nat) : Bool := (l[i]?.map (·.key.undo)).getD false
def onceOut (l : List GReq) : Nat → Bool
  | 0 => true
  | i + 1 => onceIn l i (onceOut l i) l.length
def alikeOut (l : List GReq) : Nat → Bool
  | 0 => true
  | i + 1 => alikeIn l i (alikeOut l i) l.length
def soundOut (l : List GReq) : Nat → Bool
  | 0 => true
  | i + 1 => soundOut l i && doneIn l i (!undoAt l i) l.length

theorem onceIn_iff (l : List GReq) (i : Nat) (o : Bool) : ∀ k, onceIn l i o k = true ↔ o = true ∧ ∀ j, j < k → j = i ∨ keyAt l j ≠ keyAt l i
  | 0 => by simp [onceIn]
  | k + 1 => by
    rw [onceIn, Bool.and_eq_true, onceIn_iff l i o k, Bool.or_eq_true, Bool.not_eq_true', decide_eq_true_eq, decide_eq_false_iff_not, and_assoc]
    refine and_congr_right fun _ => ⟨fun h j hj => ?_, fun h => ⟨fun j hj => h j (by omega), h k (by omega)⟩⟩
    by_cases hk : j = k
    · subst hk; exact h.2
    · exact h.1 j (by omega)
theorem alikeIn_iff (l : List GReq) (i : Nat) (o : Bool) : ∀ k, alikeIn l i o k = true ↔ o = true ∧ ∀ j, j < k → keyAt l j ≠ keyAt l i ∨ whatAt l j = whatAt l i
  | 0 => by simp [alikeIn]
  | k + 1 => by
    rw [alikeIn, Bool.and_eq_true, alikeIn_iff l i o k, Bool.or_eq_true, Bool.not_eq_true', decide_eq_true_eq, decide_eq_false_iff_not, and_assoc]
    refine and_congr_right fun _ => ⟨fun h j hj => ?_, fun h => ⟨fun j hj => h j (by omega), h k (by omega)⟩⟩
    by_cases hk : j = k
    · subst hk; exact h.2
    · exact h.1 j (by omega)
theorem doneIn_iff (l : List GReq) (i : Nat) (o : Bool) : ∀ k, doneIn l i o k = true ↔ o = true ∨ ∃ j, j < k ∧ j < i ∧ keyAt l j = (keyAt l i).map other ∧ whatAt l j = whatAt l i
  | 0 => by simp [doneIn]
  | k + 1 => by
    rw [doneIn, Bool.or_eq_true, doneIn_iff l i o k, Bool.and_eq_true, Bool.and_eq_true, decide_eq_true_eq, decide_eq_true_eq, decide_eq_true_eq, or_assoc]
    refine or_congr_right ⟨?_, ?_⟩
    · rintro (⟨j, h1, h2⟩ | ⟨⟨h1, h2⟩, h3⟩)
      · exact ⟨j, by omega, h2⟩
      · exact ⟨k, by omega, h1, h2, h3⟩
    · rintro ⟨j, h1, h2, h3, h4⟩
      by_cases hk : j = k
      · subst hk; exact .inr ⟨⟨h2, h3⟩, h4⟩
      · exact .inl ⟨j, by omega, h2, h3, h4⟩
theorem onceOut_iff (l : List GReq) : ∀ n, onceOut l n = true ↔ ∀ i, i < n → ∀ j, j < l.length → j = i ∨ keyAt l j ≠ keyAt l i
  | 0 => by simp [onceOut]
  | n + 1 => by
    rw [onceOut, onceIn_iff, onceOut_iff l n]
    refine ⟨fun h i hi => ?_, fun h => ⟨fun i hi => h i (by omega), h n (by omega)⟩⟩
    by_cases hk : i = n
    · subst hk; exact h.2
    · exact h.1 i (by omega)
theorem alikeOut_iff (l : List GReq) : ∀ n, alikeOut l n = true ↔ ∀ i, i < n → ∀ j, j < l.length → keyAt l j ≠ keyAt l i ∨ whatAt l j = whatAt l i
  | 0 => by simp [alikeOut]
  | n + 1 => by
    rw [alikeOut, alikeIn_iff, alikeOut_iff l n]
    refine ⟨fun h i hi => ?_, fun h => ⟨fun i hi => h i (by omega), h n (by omega)⟩⟩
    by_cases hk : i = n
    · subst hk; exact h.2
    · exact h.1 i (by omega)
theorem soundOut_iff (l : List GReq) : ∀ n, soundOut l n = true ↔ ∀ i, i < n → doneIn l i (!undoAt l i) l.length = true
  | 0 => by simp [soundOut]
  | n + 1 => by
    rw [soundOut, Bool.and_eq_true, soundOut_iff l n]
    refine ⟨fun h i hi => ?_, fun h => ⟨fun i hi => h i (by omega), h n (by omega)⟩⟩
    by_cases hk : i = n
    · subst hk; exact h.2
    · exact h.1 i (by omega)

theorem has_put (m : List (GKey × Value)) (k k' : GKey) (v : Value) : has (put m k v) k' = (decide (k = k') || has m k') := by
  unfold has
  rw [look_put]
  by_cases h : k = k' <;> simp [h]
theorem onceGo_iff : ∀ (l : List GReq) (m : List (GKey × Value)), onceGo m l = true ↔ (∀ q ∈ l, has m q.key = false) ∧ l.Pairwise (fun a b => a.key ≠ b.key)
  | [], m => by simp [onceGo]
  | q :: r, m => by
    rw [onceGo, List.pairwise_cons]
    by_cases h : has m q.key = true
    · rw [if_pos h]
      simp only [List.mem_cons, forall_eq_or_imp, h]
      simp
    · rw [if_neg h, onceGo_iff r]
      simp only [has_put, List.mem_cons, forall_eq_or_imp, Bool.or_eq_false_iff, decide_eq_false_iff_not]
      have h' : has m q.key = false := by simpa using h
      exact ⟨fun ⟨a, b⟩ => ⟨⟨h', fun x hx => (a x hx).2⟩, fun x hx => (a x hx).1, b⟩, fun ⟨⟨_, a⟩, b, c⟩ => ⟨fun x hx => ⟨b x hx, a x hx⟩, c⟩⟩
theorem keyAt_some {l : List GReq} {i : Nat} (h : i < l.length) : keyAt l i = some l[i].key := by simp [keyAt, h]
theorem whatAt_some {l : List GReq} {i : Nat} (h : i < l.length) : whatAt l i = some l[i].what := by simp [whatAt, h]
theorem once_same (l : List GReq) : onceGo [] l = onceOut l l.length := by
  rw [Bool.eq_iff_iff, onceGo_iff, onceOut_iff, List.pairwise_iff_getElem]
  constructor
  · rintro ⟨_, h⟩ i hi j hj
    rw [keyAt_some hi, keyAt_some hj]
    by_cases hij : j = i
    · exact .inl hij
    · refine .inr fun e => ?_
      have e := Option.some.inj e
      rcases Nat.lt_or_ge i j with hlt | hge
      · exact h i j hi hj hlt e.symm
      · exact h j i hj hi (by omega) e
  · intro h
    refine ⟨fun q _ => rfl, fun i j hi hj hij e => ?_⟩
    rcases h i hi j hj with h1 | h1
    · omega
    · rw [keyAt_some hi, keyAt_some hj] at h1
      exact h1 (by rw [e])

theorem alikeGo_iff : ∀ (l : List GReq) (m : List (GKey × GEff)), alikeGo m l = true ↔ (∀ q ∈ l, ∀ v, look m q.key = some v → v = q.what) ∧ l.Pairwise (fun a b => a.key = b.key → a.what = b.what)
  | [], m => by simp [alikeGo]
  | q :: r, m => by
    rw [alikeGo, List.pairwise_cons]
    have step : (∀ v, look m q.key = some v → v = q.what) → ((alikeGo (put m q.key q.what) r = true) ↔ (∀ p ∈ q :: r, ∀ v, look m p.key = some v → v = p.what) ∧ (∀ b ∈ r, q.key = b.key → q.what = b.what) ∧ r.Pairwise (fun a b => a.key = b.key → a.what = b.what)) := fun hq => by
      rw [alikeGo_iff r]
      simp only [look_put, List.mem_cons, forall_eq_or_imp]
      constructor
      · rintro ⟨a, b⟩
        refine ⟨⟨hq, fun x hx v hv => ?_⟩, fun x hx e => ?_, b⟩
        · by_cases e : q.key = x.key
          · have h1 := a x hx q.what (by rw [if_pos e])
            rw [← h1]
            exact hq v (by rw [e]; exact hv)
          · exact a x hx v (by rw [if_neg e]; exact hv)
        · exact a x hx q.what (by rw [if_pos e])
      · rintro ⟨⟨_, a⟩, b, c⟩
        refine ⟨fun x hx v hv => ?_, c⟩
        by_cases e : q.key = x.key
        · rw [if_pos e] at hv
          rw [← Option.some.inj hv]
          exact b x hx e
        · rw [if_neg e] at hv
          exact a x hx v hv
    cases hl : look m q.key with
    | none =>
      exact step (fun v hv => by rw [hl] at hv; cases hv)
    | some v =>
      dsimp only
      by_cases hv : v = q.what
      · rw [if_pos hv]
        exact step (fun u hu => by rw [hl] at hu; rw [← Option.some.inj hu]; exact hv)
      · rw [if_neg hv]
        refine ⟨fun h => (by cases h), fun h => absurd (h.1 q (by simp) v hl) hv⟩
theorem alike_same (l : List GReq) : alikeGo [] l = alikeOut l l.length := by
  rw [Bool.eq_iff_iff, alikeGo_iff, alikeOut_iff, List.pairwise_iff_getElem]
  constructor
  · rintro ⟨_, h⟩ i hi j hj
    rw [keyAt_some hi, keyAt_some hj, whatAt_some hi, whatAt_some hj]
    by_cases e : l[j].key = l[i].key
    · refine .inr ?_
      rcases Nat.lt_trichotomy i j with hlt | heq | hgt
      · rw [h i j hi hj hlt e.symm]
      · subst heq; rfl
      · rw [h j i hj hi hgt e]
    · exact .inl (fun h => e (Option.some.inj h))
  · intro h
    refine ⟨fun q _ v hv => (by cases hv), fun i j hi hj hij e => ?_⟩
    rcases h i hi j hj with h1 | h1
    · rw [keyAt_some hi, keyAt_some hj] at h1
      exact absurd (by rw [e]) h1
    · rw [whatAt_some hi, whatAt_some hj] at h1
      exact (Option.some.inj h1).symm

theorem indexGo_iff (q : GReq) : ∀ (l : List GReq) (i : Int), 0 ≤ i → (0 ≤ indexGo q l i ↔ q ∈ l)
  | [], _, _ => by simp [indexGo]
  | x :: r, i, hi => by
    rw [indexGo, List.mem_cons]
    by_cases h : q = x
    · rw [if_pos h]; exact ⟨fun _ => .inl h, fun _ => hi⟩
    · rw [if_neg h, indexGo_iff q r (i + 1) (by omega)]
      exact ⟨.inr, fun hh => hh.resolve_left h⟩
theorem doneB_iff (l : List GReq) (k : Nat) (q : GReq) : doneB l k q = true ↔ ∃ j, j < k ∧ keyAt l j = some (other q.key) ∧ whatAt l j = some q.what := by
  unfold doneB
  rw [decide_eq_true_eq, indexGo_iff _ _ _ (Int.le_refl _), List.mem_iff_getElem?]
  constructor
  · rintro ⟨j, hj⟩
    rw [List.getElem?_take] at hj
    split at hj
    · exact ⟨j, by assumption, by simp [keyAt, hj], by simp [whatAt, hj]⟩
    · cases hj
  · rintro ⟨j, h1, h2, h3⟩
    refine ⟨j, ?_⟩
    rw [List.getElem?_take, if_pos h1]
    unfold keyAt at h2
    unfold whatAt at h3
    cases hx : l[j]? with
    | none => rw [hx] at h2; cases h2
    | some x =>
      rw [hx] at h2 h3
      obtain ⟨xk, xw⟩ := x
      simp only [Option.map_some, Option.some.injEq] at h2 h3
      rw [h2, h3]
theorem soundGo_iff (l : List GReq) : ∀ (r : List GReq) (k : Nat), r = l.drop k → (soundGo l k r = true ↔ ∀ i, k ≤ i → i < l.length → doneIn l i (!undoAt l i) l.length = true)
  | [], k, hr => by
    have : l.length ≤ k := by have := congrArg List.length hr; simp at this; omega
    simp only [soundGo, true_iff]
    intro i h1 h2
    omega
  | q :: r, k, hr => by
    have hk : k < l.length := by have := congrArg List.length hr; simp at this; omega
    have hq : l[k]? = some q := by
      have := congrArg (fun x => x[0]?) hr
      simpa using this.symm
    have hr' : r = l.drop (k + 1) := by
      have := congrArg List.tail hr
      simpa using this
    have hgood : doneIn l k (!undoAt l k) l.length = true ↔ ¬ (q.key.undo = true ∧ doneB l k q = false) := by
      rw [doneIn_iff, ← Bool.not_eq_true (doneB l k q), doneB_iff]
      have hu : undoAt l k = q.key.undo := by simp [undoAt, hq]
      have hkk : keyAt l k = some q.key := by simp [keyAt, hq]
      have hkw : whatAt l k = some q.what := by simp [whatAt, hq]
      rw [hu, hkk, hkw]
      constructor
      · rintro (h | ⟨j, h1, h2, h3, h4⟩) ⟨h5, h6⟩
        · rw [h5] at h; cases h
        · exact h6 ⟨j, h2, h3, h4⟩
      · intro h
        by_cases hu : q.key.undo = true
        · refine .inr (Classical.byContradiction fun hc => h ⟨hu, fun ⟨j, h1, h2, h3⟩ => hc ⟨j, by omega, h1, h2, h3⟩⟩)
        · exact .inl (by simpa using hu)
    rw [soundGo]
    by_cases hbad : q.key.undo = true ∧ doneB l k q = false
    · rw [if_pos (by simp [hbad.1, hbad.2])]
      refine ⟨fun h => (by cases h), fun h => absurd hbad (hgood.1 (h k (Nat.le_refl _) hk))⟩
    · rw [if_neg (by simpa using hbad), soundGo_iff l r (k + 1) hr']
      refine ⟨fun h i h1 h2 => ?_, fun h i h1 h2 => h i (by omega) h2⟩
      by_cases e : i = k
      · subst e; exact hgood.2 hbad
      · exact h i (by omega) h2
theorem sound_same (l : List GReq) : soundGo l 0 l = soundOut l l.length := by
  rw [Bool.eq_iff_iff, soundGo_iff l l 0 rfl, soundOut_iff]
  exact ⟨fun h i hi => h i (Nat.zero_le _) hi, fun h i _ hi => h i hi⟩
end Go.Proofs.Yteddfmhlnahdjaa
