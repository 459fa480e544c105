/- Maps as lists of pairs: what a look-up, a store and a delete do to the block of a map whose keys are compared by plain equality. No condition but the facts that are named. -/
import Derived.WalkKit
import Derived.WalkLawsBesides
import Derived.WalkSpells
import Derived.Maps.OwnSet
import Derived.Lib.Hide
namespace Go.Proofs.Yteddfmhlnahdjaa
open Go

/-! ### the list model -/
section
variable {κ β : Type} [DecidableEq κ]
def look (m : List (κ × β)) (k : κ) : Option β := (m.find? fun p => p.1 == k).map (·.2)
def put (m : List (κ × β)) (k : κ) (v : β) : List (κ × β) :=
  match m with
  | [] => [(k, v)]
  | p :: r => if p.1 = k then (k, v) :: r else p :: put r k v
def del (m : List (κ × β)) (k : κ) : List (κ × β) :=
  match m with
  | [] => []
  | p :: r => if p.1 = k then r else p :: del r k
end

section
variable {κ β : Type} [DecidableEq κ]
/-- a map's list with its values written as Go values -/
def vals (f : β → Value) (m : List (κ × β)) : List (κ × Value) := m.map fun p => (p.1, f p.2)
theorem look_vals (f : β → Value) (m : List (κ × β)) (k : κ) : look (vals f m) k = (look m k).map f := by
  induction m with
  | nil => rfl
  | cons p r ih =>
    by_cases h : (p.1 == k) = true
    · simp [look, vals, h]
    · have h' : (p.1 == k) = false := by simpa using h
      simp only [look, vals, List.map_cons, List.find?_cons, h'] at ih ⊢
      exact ih
theorem put_vals (f : β → Value) (m : List (κ × β)) (k : κ) (v : β) : put (vals f m) k (f v) = vals f (put m k v) := by
  induction m with
  | nil => rfl
  | cons p r ih =>
    by_cases h : p.1 = k
    · simp [put, vals, h]
    · simp only [vals, List.map_cons, put, if_neg h] at ih ⊢
      rw [ih]
theorem del_vals (f : β → Value) (m : List (κ × β)) (k : κ) : del (vals f m) k = vals f (del m k) := by
  induction m with
  | nil => rfl
  | cons p r ih =>
    by_cases h : p.1 = k
    · simp [del, vals, h]
    · simp only [vals, List.map_cons, del, if_neg h] at ih ⊢
      rw [ih]
end

/-- how a key type's values behave -/
structure KeyT (P : Program) (K : TypeId) (κ : Type) [DecidableEq κ] (enc : κ → Value) : Prop where
  eq : ∀ (a b : κ) (w : World), (Op.equal K (enc a) (enc b)).run P w = .ok (decide (a = b)) w
  ck : ∀ (e : Bool) (a : κ) (w : World), (Instr.checkKey e 10000 K (enc a)).run P w = .ok () w
  now : ∀ (d : TypeDesc) (a b : κ), P.underlying K = some d → Instr.sameNow d (enc a) (enc b) = none
  und : ∃ d, P.underlying K = some d
  same : ∀ (a : κ), Instr.sameBits 10000 (enc a) (enc a) = true

/-- block b is the map m -/
def World.mapAt {κ : Type} (w : World) (enc : κ → Value) (b : Nat) (m : List (κ × Value)) : Prop :=
  ∃ es clock, w.heap[b]? = some (.map es clock) ∧ es.toList.map (fun e => (e.key, e.val)) = m.map (fun p => (enc p.1, p.2))

section
variable {P : Program} {K : TypeId} {κ : Type} [DecidableEq κ] {enc : κ → Value}

/-- where the first entry at k is -/
def place (m : List (κ × Value)) (k : κ) (i : Nat) : Option (Nat × Value) :=
  match m with
  | [] => none
  | p :: r => if k = p.1 then some (i, p.2) else place r k (i + 1)

theorem findAsking_run (T : KeyT P K κ enc) (k : κ) (w : World) : ∀ (es : List MapEntry) (m : List (κ × Value)) (i : Nat),
    es.map (fun e => (e.key, e.val)) = m.map (fun p => (enc p.1, p.2)) →
    (Instr.findAsking K (enc k) es i).run P w = .ok (place m k i) w
  | [], [], i, _ => by simp [Instr.findAsking, place]
  | [], _ :: _, _, h => by simp at h
  | _ :: _, [], _, h => by simp at h
  | e :: es, p :: m, i, h => by
    simp only [List.map_cons, List.cons.injEq, Prod.mk.injEq] at h
    obtain ⟨⟨h1, h2⟩, h3⟩ := h
    unfold Instr.findAsking place
    rw [h1]
    simp only [Sem.run_bind, T.eq, Result.andThen_ok]
    by_cases hk : k = p.1
    · simp [hk, h2]
    · simp [hk, findAsking_run T k w es m (i + 1) h3]

theorem findKey_run (T : KeyT P K κ enc) (k : κ) (w : World) (es : List MapEntry) (m : List (κ × Value))
    (h : es.map (fun e => (e.key, e.val)) = m.map (fun p => (enc p.1, p.2))) :
    (Instr.findKey K (enc k) es).run P w = .ok (place m k 0) w := by
  obtain ⟨d, hd⟩ := T.und
  unfold Instr.findKey
  simp only [Sem.run_bind, run_underlying hd, Result.andThen_ok]
  cases es with
  | nil =>
    cases m with
    | nil => simp [Instr.findNow, place]
    | cons _ _ => simp at h
  | cons e es =>
    cases m with
    | nil => simp at h
    | cons p m =>
      have h1 : e.key = enc p.1 := by simp at h; exact h.1.1
      simp only [Instr.findNow, h1, T.now d k p.1 hd]
      exact findAsking_run T k w (e :: es) (p :: m) 0 h

theorem place_look (m : List (κ × Value)) (k : κ) : ∀ i, (place m k i).map (·.2) = look m k := by
  induction m with
  | nil => intro i; rfl
  | cons p r ih =>
    intro i
    unfold place look
    by_cases h : k = p.1
    · subst h; simp
    · have h' : ¬ p.1 = k := fun e => h e.symm
      simp only [if_neg h, List.find?_cons]
      have : (p.1 == k) = false := by simpa using h'
      rw [this, ih]; rfl

theorem lookup_run {T V : TypeId} (hT : P.underlying T = some (.map K V)) (KT : KeyT P K κ enc) {w : World} {b : Nat} {m : List (κ × Value)} (hm : World.mapAt w enc b m)
    {z : Value} (hz : (zeroValue V).run P w = .ok z w) (k : κ) :
    (Instr.lookup T (.map (some b)) (enc k) false).run P w = .ok ((look m k).getD z) w := by
  obtain ⟨es, clock, hb, he⟩ := hm
  unfold Instr.lookup
  simp only [Sem.run_bind, run_underlying hT, Result.andThen_ok]
  have hg : (getObj b).run P w = .ok (.map es clock) w := by simp [getObj, Sem.run, hb]
  simp only [hg, Result.andThen_ok, Sem.run_bind, Sem.run_pure, KT.ck, findKey_run KT k w es.toList m he]
  rw [← place_look m k 0]
  cases hp : place m k 0 with
  | none => simp [hz]
  | some x => simp

theorem lookup_ok_run {T V : TypeId} (hT : P.underlying T = some (.map K V)) (KT : KeyT P K κ enc) {w : World} {b : Nat} {m : List (κ × Value)} (hm : World.mapAt w enc b m)
    {z : Value} (hz : (zeroValue V).run P w = .ok z w) (k : κ) :
    (Instr.lookup T (.map (some b)) (enc k) true).run P w = .ok (.tuple #[(look m k).getD z, .bool (look m k).isSome]) w := by
  obtain ⟨es, clock, hb, he⟩ := hm
  unfold Instr.lookup
  simp only [Sem.run_bind, run_underlying hT, Result.andThen_ok]
  have hg : (getObj b).run P w = .ok (.map es clock) w := by simp [getObj, Sem.run, hb]
  simp only [hg, Result.andThen_ok, Sem.run_bind, Sem.run_pure, KT.ck, findKey_run KT k w es.toList m he]
  rw [← place_look m k 0]
  cases hp : place m k 0 with
  | none => simp [hz]
  | some x => simp

theorem place_put (m : List (κ × Value)) (k : κ) (v : Value) : ∀ i, match place m k i with
    | some (j, _) => ∃ n u, j = i + n ∧ m[n]? = some (k, u) ∧ put m k v = m.set n (k, v)
    | none => put m k v = m ++ [(k, v)] := by
  induction m with
  | nil => intro i; simp [place, put]
  | cons p r ih =>
    intro i
    unfold place
    by_cases h : k = p.1
    · rw [if_pos h]
      exact ⟨0, p.2, by simp, by simp [h], by simp [put, h]⟩
    · rw [if_neg h]
      have h' : ¬ p.1 = k := fun e => h e.symm
      have := ih (i + 1)
      cases hp : place r k (i + 1) with
      | none => rw [hp] at this; simp [put, h', this]
      | some x =>
        rw [hp] at this
        obtain ⟨n, u, h1, h2, h3⟩ := this
        exact ⟨n + 1, u, by omega, by simpa using h2, by simp [put, h', h3]⟩

theorem place_del (m : List (κ × Value)) (k : κ) : ∀ i, match place m k i with
    | some (j, _) => ∃ n, j = i + n ∧ n < m.length ∧ del m k = m.eraseIdx n
    | none => del m k = m := by
  induction m with
  | nil => intro i; simp [place, del]
  | cons p r ih =>
    intro i
    unfold place
    by_cases h : k = p.1
    · rw [if_pos h]
      exact ⟨0, by simp, by simp, by simp [del, h]⟩
    · rw [if_neg h]
      have h' : ¬ p.1 = k := fun e => h e.symm
      have := ih (i + 1)
      cases hp : place r k (i + 1) with
      | none => rw [hp] at this; simp [del, h', this]
      | some x =>
        rw [hp] at this
        obtain ⟨n, h1, h2, h3⟩ := this
        exact ⟨n + 1, by omega, by simp; omega, by simp [del, h', h3]⟩

theorem map_eraseIdx' {α β : Type} (f : α → β) : ∀ (l : List α) (i : Nat), (l.eraseIdx i).map f = (l.map f).eraseIdx i
  | [], _ => rfl
  | _ :: _, 0 => rfl
  | x :: r, i + 1 => by simp [List.eraseIdx, map_eraseIdx' f r i]

/-- the world behind a turn of block b -/
def setObj' (w : World) (b : Nat) (o : Obj) : World := { w with heap := w.heap.setIfInBounds b o }
theorem setObj'_grown (w : World) (b : Nat) (o : Obj) : w.grownBy (setObj' w b o) (some b) :=
  ⟨rfl, rfl, rfl, by simp [setObj'], fun k _ hne => by
    simp only [setObj', Array.getElem?_setIfInBounds]
    rw [if_neg]; intro e; exact hne (by rw [e])⟩
theorem setObj'_at (w : World) (b : Nat) (o : Obj) (h : b < w.heap.size) : (setObj' w b o).heap[b]? = some o := by
  simp [setObj', h]

theorem mapUpdate_run {T V : TypeId} (hT : P.underlying T = some (.map K V)) (KT : KeyT P K κ enc) {w : World} {b : Nat} {m : List (κ × Value)} (hm : World.mapAt w enc b m)
    (k : κ) (v : Value) :
    ∃ w', (Instr.mapUpdate T (.map (some b)) (enc k) v).run P w = .ok () w' ∧ World.mapAt w' enc b (put m k v) ∧ w.grownBy w' (some b) := by
  obtain ⟨es, clock, hb, he⟩ := hm
  have hlt : b < w.heap.size := (Array.getElem?_eq_some_iff.1 hb).1
  have hg : (getObj b).run P w = .ok (.map es clock) w := by simp [getObj, Sem.run, hb]
  have hs : ∀ o, (setObj b o).run P w = .ok () (setObj' w b o) := fun o => by simp [setObj, Sem.run, hb, setObj']
  have hput := place_put m k v 0
  unfold Instr.mapUpdate
  simp only [Sem.run_bind, run_underlying hT, Result.andThen_ok, hg, KT.ck, findKey_run KT k w es.toList m he]
  cases hp : place m k 0 with
  | none =>
    rw [hp] at hput
    refine ⟨_, hs _, ⟨_, _, setObj'_at w b _ hlt, ?_⟩, setObj'_grown w b _⟩
    simp [he, hput]
  | some x =>
    rw [hp] at hput
    obtain ⟨n, u, h1, h2, h3⟩ := hput
    obtain ⟨j, y⟩ := x
    simp only [Nat.zero_add] at h1
    subst h1
    have hlen : es.toList.length = m.length := by have := congrArg List.length he; simpa using this
    have hj : j < m.length := (List.getElem?_eq_some_iff.1 h2).1
    have hkey : (es[j]?).map (·.key) = some (enc k) := by
      have := congrArg (fun l => l[j]?) he
      simp only [List.getElem?_map, h2, Option.map_some] at this
      rw [← Array.getElem?_toList]
      cases hx : es.toList[j]? with
      | none => rw [hx] at this; simp at this
      | some e => rw [hx] at this; simp at this; simp [this.1]
    simp only [hkey, Option.getD_some, Instr.keyThatStays, KT.same, if_true]
    refine ⟨_, hs _, ⟨_, _, setObj'_at w b _ hlt, ?_⟩, setObj'_grown w b _⟩
    rw [h3]
    have hjs : j < es.size := by rw [← Array.length_toList, hlen]; exact hj
    apply List.ext_getElem?
    intro i
    have hi := congrArg (fun l => l[i]?) he
    simp only [List.getElem?_map] at hi
    simp only [List.getElem?_map, Array.getElem?_toList, Array.getElem?_modify, List.getElem?_set]
    rw [Array.getElem?_toList] at hi
    by_cases hij : j = i
    · subst hij
      simp [hj, hjs]
    · simp only [if_neg hij]
      exact hi

theorem delete_run {T V : TypeId} (hT : P.underlying T = some (.map K V)) (KT : KeyT P K κ enc) {w : World} {b : Nat} {m : List (κ × Value)} (hm : World.mapAt w enc b m)
    (k : κ) (ty : TypeId) (ts : Array TypeId) (hts : ts[0]? = some T) :
    ∃ w', (Builtin.delete_ ts ty #[.map (some b), enc k]).run P w = .ok (.tuple #[]) w' ∧ World.mapAt w' enc b (del m k) ∧ w.grownBy w' (some b) := by
  obtain ⟨es, clock, hb, he⟩ := hm
  have hlt : b < w.heap.size := (Array.getElem?_eq_some_iff.1 hb).1
  have hg : (getObj b).run P w = .ok (.map es clock) w := by simp [getObj, Sem.run, hb]
  have hs : ∀ o, (setObj b o).run P w = .ok () (setObj' w b o) := fun o => by simp [setObj, Sem.run, hb, setObj']
  have hdel := place_del m k 0
  unfold Builtin.delete_
  simp only [hts]
  simp only [List.getElem?_toArray, List.getElem?_cons_zero, List.getElem?_cons_succ, Sem.run_bind, run_underlying hT, Result.andThen_ok, hg, KT.ck, findKey_run KT k w es.toList m he]
  cases hp : place m k 0 with
  | none =>
    rw [hp] at hdel
    simp only [hs, Sem.run_bind, Sem.run_pure, Result.andThen_ok]
    exact ⟨_, rfl, ⟨_, _, setObj'_at w b _ hlt, by rw [hdel]; exact he⟩, setObj'_grown w b _⟩
  | some x =>
    rw [hp] at hdel
    obtain ⟨j, y⟩ := x
    obtain ⟨n, h1, h2, h3⟩ := hdel
    simp only [Nat.zero_add] at h1
    subst h1
    simp only [hs, Sem.run_bind, Sem.run_pure, Result.andThen_ok]
    refine ⟨_, rfl, ⟨_, _, setObj'_at w b _ hlt, ?_⟩, setObj'_grown w b _⟩
    have hlen : es.toList.length = m.length := by have := congrArg List.length he; simpa using this
    have hjs : j < es.size := by rw [← Array.length_toList, hlen]; exact h2
    rw [h3]
    simp only [Array.eraseIdxIfInBounds, hjs, dite_true, Array.toList_eraseIdx]
    rw [map_eraseIdx', map_eraseIdx', he]
end
end Go.Proofs.Yteddfmhlnahdjaa
