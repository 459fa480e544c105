/- The walk of audit.Stacked: for every list of at most 1000 that can be read. -/
import Derived.Test.YteddfmhlnahdjaaStk
import Derived.Test.YteddfmhlnahdjaaSound
import Derived.Deep.AppendLies
namespace Go.Proofs.Yteddfmhlnahdjaa
open Go Go.RowKit

theorem zero52 (w : World) : (zeroValue 52).run Try.prog w = .ok nilV w := by kernel_rfl
theorem info28 : (Try.prog.info? 28).map (fun i => (i.zero, i.size, i.bytes)) = some (some (.agg #[.int .i64 0, .int .i64 0, .int .i64 0, .bool false]), 4, 32) := by kernel_rfl

def stackedGo (M : List (GId × List GKey)) : List GReq → Bool
  | [] => true
  | q :: r =>
    let ks := (look M q.key.id).getD []
    if q.key.undo = false then stackedGo (put M q.key.id (ks ++ [q.key])) r
    else if ks.getLast? ≠ some (other q.key) then false
    else if ks.length = 1 then stackedGo (del (put M q.key.id ks.dropLast) q.key.id) r
    else stackedGo (put M q.key.id ks.dropLast) r
def StkInv (l : List GReq) (w : World) (b : Nat) (k : Nat) (wr : World) : Prop :=
  ∃ m M, World.mapAt wr eId b m ∧ Stk wr (b + 1) k m M ∧ stackedGo [] l = stackedGo M (l.drop k) ∧ Below w.heap.size w wr ∧ b + 1 ≤ wr.heap.size

theorem step_update_m {P : Program} {w : World} {ops : Array Oper} {o : Oper} {a : Act} {Q : Exit → Act → World → Prop} {K : Act → World → Prop} {E : Prop}
    (hg : o.guard = none) (t : TypeId) (m x v : Operand) (hop : o.op = .mapUpdate t m x v) (b : Nat) (kv vv : Value) (hm : a.eval m = .map (some b)) (hx : a.eval x = kv) (hv : a.eval v = vv)
    {R : World → Prop} (hrun : ∃ w', (Instr.mapUpdate t (.map (some b)) kv vv).run P w = .ok () w' ∧ R w')
    (hK : ∀ w', R w' → K (a.put o.dst undef) w') : if Region.wanted o (yielded ops a.tmps) = true then Oper.wp P o a w K Q else E := by
  have hw : Region.wanted o (yielded ops a.tmps) = true := by simp [Region.wanted, hg]
  rw [if_pos hw]
  obtain ⟨w', h1, h2⟩ := hrun
  unfold Oper.wp
  simp [execOp, hop, hm, hx, hv, h1, Result.andThen]
  exact hK _ h2
theorem updId {w : World} {b : Nat} {m : List (GId × Value)} (hm : World.mapAt w eId b m) (id : GId) (v : Value) : ∃ w', (Instr.mapUpdate 51 (.map (some b)) (.agg #[.int .i64 id.r, .int .i64 id.s]) v).run Try.prog w = .ok () w' ∧ World.mapAt w' eId b (put m id v) ∧ w.grownBy w' (some b) :=
  mapUpdate_run (enc := eId) Try.underlying51 KTId hm id v
theorem wpList_delete_m {P : Program} {w : World} {ops : Array Oper} {rest : List Oper} {o : Oper} {a : Act} {Q : Exit → Act → World → Prop}
    (hg : o.guard = none) (m x : Operand) (ts : Array TypeId) (hop : o.op = .call { callee := .builtin .delete, args := #[m, x], argTypes := ts }) (b : Nat) (kv : Value) (hm : a.eval m = .map (some b)) (hx : a.eval x = kv)
    {R : World → Prop} (hrun : ∃ w', (Builtin.delete_ ts o.type #[.map (some b), kv]).run P w = .ok (.tuple #[]) w' ∧ R w')
    (hK : ∀ w', R w' → wpList P ops Q rest (a.put o.dst (.tuple #[])) w') : wpList P ops Q (o :: rest) a w := by
  refine wpList_plain hg fun K' hK' => ?_
  obtain ⟨w', h1, h2⟩ := hrun
  unfold Oper.wp execOp
  simp only [hop, resolve, invoke, builtin, Sem.run_bind, Sem.run_pure, Result.andThen_ok, List.map_toArray, List.map_cons, List.map_nil, hm, hx, h1]
  exact hK' _ _ (hK _ h2)
theorem undrew {w w' : World} {row : Option Nat} (h : w.drew.grownBy w' row) : w.grownBy w' row := ⟨h.os, h.tape, h.output, h.size, h.block⟩

/-- what is known of the world inside a round that pops -/
structure Sp (w : World) (bx bm k : Nat) (m : List (GId × Value)) (M : List (GId × List GKey)) (x : GReq) (g cp : Nat) (ks : List GKey) (kk : GKey) (W : World) : Prop where
  box : ReqS bx x w W
  map : World.mapAt W eId bm m
  stk : Stk W (bm + 1) k m M
  own : W.ownsRow (bm + 1) 28 4 (.slice (some ⟨g, 0, none⟩) (ks.length + 1) cp) (ks.length + 1) (ks.flatMap cKey ++ cKey kk)
  far : bm ≠ bx
  size1 : bm + 1 ≤ W.heap.size
theorem ReqS.alloc {b : Nat} {x : GReq} {w W : World} (h : ReqS b x w W) (o : Obj) : ReqS b x w (W.alloc o) := h.next ((Below.refl _ _).alloc (Nat.le_refl _) o)
/-- what is known of the world inside a round -/
structure St (w : World) (bx bm k : Nat) (m : List (GId × Value)) (M : List (GId × List GKey)) (x : GReq) (v : Value) (ks : List GKey) (W : World) : Prop where
  box : ReqS bx x w W
  map : World.mapAt W eId bm m
  stk : Stk W (bm + 1) k m M
  own : W.ownsRow (bm + 1) 28 4 v ks.length (ks.flatMap cKey)
  far : v.ownBlock ≠ some bx ∧ bm ≠ bx
  size1 : bm + 1 ≤ W.heap.size
theorem St.start {w wr : World} {bm k : Nat} {m : List (GId × Value)} {M : List (GId × List GKey)} {v : Value} {ks : List GKey} (x : GReq) (hb : Below w.heap.size w wr) (hm : World.mapAt wr eId bm m) (hs : Stk wr (bm + 1) k m M) (ho : wr.ownsRow (bm + 1) 28 4 v ks.length (ks.flatMap cKey)) :
    St w wr.heap.size bm k m M x v ks (wr.alloc (.cells #[.int .i64 x.key.id.r, .int .i64 x.key.id.s, .int .i64 x.key.ord, .bool x.key.undo, .int .i64 x.what.kind, .int .i64 x.what.a, .int .i64 x.what.n, .int .i64 x.what.ref.r, .int .i64 x.what.ref.s] 32)) := by
  have hlt : bm < wr.heap.size := by obtain ⟨es, clock, h, _⟩ := hm; exact (Array.getElem?_eq_some_iff.1 h).1
  exact ⟨ReqS.start x hb, mapAt_alloc hm _, hs.keep (Nat.le_refl _) (fun v n xs h => h.alloc _), ho.alloc _, ⟨fun e => by have := (ho.lt _ e).2; omega, by omega⟩, by simp; omega⟩

theorem ReqS.grown {b : Nat} {x : GReq} {w W W1 : World} {row : Option Nat} (h : ReqS b x w W) (hg : W.grownBy W1 row) (hne : row ≠ some b) (hlow : ∀ j, row = some j → w.heap.size ≤ j) : ReqS b x w W1 := by
  obtain ⟨⟨c0, c1, c2, c3, c4, c5, c6, c7, c8⟩, h⟩ := h
  have go : ∀ {j : Nat} {v : Value}, W.cell? ⟨b, j, none⟩ = some v → W1.cell? ⟨b, j, none⟩ = some v := fun hc => hg.cell hc (fun e => hne e.symm)
  exact ⟨⟨go c0, go c1, go c2, go c3, go c4, go c5, go c6, go c7, go c8⟩, h.out.grown hg h.out.size hlow⟩
theorem St.grown1 {w W W1 : World} {bx k : Nat} {m : List (GId × Value)} {M : List (GId × List GKey)} {x : GReq} {v : Value} {ks : List GKey} (h : St w bx w.heap.size k m M x v ks W) (hg : W.grownBy W1 v.ownBlock) : ReqS bx x w W1 :=
  h.box.grown hg h.far.1 (fun j hj => by have := (h.own.lt j hj).1; omega)
theorem St.map1 {w W W1 : World} {bx bm k : Nat} {m : List (GId × Value)} {M : List (GId × List GKey)} {x : GReq} {v : Value} {ks : List GKey} (h : St w bx bm k m M x v ks W) (hg : W.grownBy W1 v.ownBlock) : World.mapAt W1 eId bm m :=
  mapAt_grown h.map hg (by
    rcases own_ne_map h.map h.own with e | e
    · rw [e]; simp
    · exact fun e' => e e'.symm)

theorem grown_of_below {w w1 : World} (h : Below w.heap.size w w1) (row : Option Nat) : w.grownBy w1 row := ⟨h.os, h.tape, h.output, h.size, fun i hi _ => h.block i hi⟩
theorem St.next {w W W1 : World} {bx bm k : Nat} {m : List (GId × Value)} {M : List (GId × List GKey)} {x : GReq} {v : Value} {ks : List GKey} (h : St w bx bm k m M x v ks W) (hb : Below W.heap.size W W1) : St w bx bm k m M x v ks W1 :=
  ⟨h.box.next hb, mapAt_grown h.map (grown_of_below hb none) (by simp), h.stk.keep (Nat.le_refl _) (fun _ _ _ ho => ho.kept (grown_of_below hb none) (by
    rename_i v' n' xs' ; cases hv : v'.ownBlock <;> simp)), h.own.kept (grown_of_below hb none) (by cases hv : v.ownBlock <;> simp), h.far, Nat.le_trans h.size1 hb.size⟩
theorem St.drew {w W : World} {bx bm k : Nat} {m : List (GId × Value)} {M : List (GId × List GKey)} {x : GReq} {v : Value} {ks : List GKey} (h : St w bx bm k m M x v ks W) : St w bx bm k m M x v ks W.drew := h.next (Below.refl _ _).drew
theorem flat_snoc (ks : List GKey) (k : GKey) : (ks ++ [k]).flatMap cKey = ks.flatMap cKey ++ cKey k := by simp

theorem Sp.start {w wr : World} {bm k : Nat} {m : List (GId × Value)} {M : List (GId × List GKey)} {g cp : Nat} {ks : List GKey} {kk : GKey} (x : GReq) (hb : Below w.heap.size w wr) (hm : World.mapAt wr eId bm m) (hs : Stk wr (bm + 1) k m M) (ho : wr.ownsRow (bm + 1) 28 4 (.slice (some ⟨g, 0, none⟩) (ks.length + 1) cp) (ks.length + 1) (ks.flatMap cKey ++ cKey kk)) :
    Sp w wr.heap.size bm k m M x g cp ks kk (wr.alloc (.cells #[.int .i64 x.key.id.r, .int .i64 x.key.id.s, .int .i64 x.key.ord, .bool x.key.undo, .int .i64 x.what.kind, .int .i64 x.what.a, .int .i64 x.what.n, .int .i64 x.what.ref.r, .int .i64 x.what.ref.s] 32)) := by
  have hlt : bm < wr.heap.size := by obtain ⟨es, clock, h, _⟩ := hm; exact (Array.getElem?_eq_some_iff.1 h).1
  exact ⟨ReqS.start x hb, mapAt_alloc hm _, hs.keep (Nat.le_refl _) (fun v n xs h => h.alloc _), ho.alloc _, by omega, by simp; omega⟩
theorem Sp.next {w W W1 : World} {bx bm k : Nat} {m : List (GId × Value)} {M : List (GId × List GKey)} {x : GReq} {g cp : Nat} {ks : List GKey} {kk : GKey} (h : Sp w bx bm k m M x g cp ks kk W) (hb : Below W.heap.size W W1) : Sp w bx bm k m M x g cp ks kk W1 :=
  ⟨h.box.next hb, mapAt_grown h.map (grown_of_below hb none) (by simp), h.stk.keep (Nat.le_refl _) (fun _ _ _ ho => ho.kept (grown_of_below hb none) (by
    rename_i v' n' xs' ; cases hv : v'.ownBlock <;> simp)), h.own.kept (grown_of_below hb none) (.inr (by simp [Value.ownBlock])), h.far, Nat.le_trans h.size1 hb.size⟩
theorem Sp.drew {w W : World} {bx bm k : Nat} {m : List (GId × Value)} {M : List (GId × List GKey)} {x : GReq} {g cp : Nat} {ks : List GKey} {kk : GKey} (h : Sp w bx bm k m M x g cp ks kk W) : Sp w bx bm k m M x g cp ks kk W.drew := h.next (Below.refl _ _).drew
theorem nil_or_snoc {α : Type} (l : List α) : l = [] ∨ ∃ L b, l = L ++ [b] := by
  rcases List.eq_nil_or_concat l with h | ⟨L, b, h⟩
  · exact .inl h
  · exact .inr ⟨L, b, by simpa using h⟩
theorem own_form {w : World} {B n c : Nat} {A : Option Addr} {xs : List Value} (h : w.ownsRow B 28 4 (.slice A (n + 1) c) (n + 1) xs) : ∃ g, A = some ⟨g, 0, none⟩ ∧ n + 1 ≤ c := by
  rcases h.2 with ⟨_, h0⟩ | ⟨g, cap, cur, hv, _, _, h5, _⟩
  · omega
  · cases hv; exact ⟨g, rfl, h5⟩
theorem last_cells {w : World} {B g c : Nat} {ks : List GKey} {k : GKey} (h : w.ownsRow B 28 4 (.slice (some ⟨g, 0, none⟩) (ks.length + 1) c) (ks.length + 1) (ks.flatMap cKey ++ cKey k)) :
    w.cell? ⟨g, ks.length * 4, none⟩ = some (.int .i64 k.id.r) ∧ w.cell? ⟨g, ks.length * 4 + 1, none⟩ = some (.int .i64 k.id.s) ∧ w.cell? ⟨g, ks.length * 4 + 2, none⟩ = some (.int .i64 k.ord) ∧ w.cell? ⟨g, ks.length * 4 + 3, none⟩ = some (.bool k.undo) := by
  have hl := flat_len ks
  have hc := h.cells (g := g) rfl
  have go : ∀ (j : Nat) (u : Value), (cKey k)[j]? = some u → w.cell? ⟨g, ks.length * 4 + j, none⟩ = some u := fun j u hu => by
    have := hc (ks.length * 4 + j) u (by rw [← hl, List.getElem?_append_right (by omega)]; simpa using hu)
    rwa [Addr.add_lit, Nat.zero_add] at this
  exact ⟨go 0 _ rfl, go 1 _ rfl, go 2 _ rfl, go 3 _ rfl⟩

theorem stacked_calls (A : Option Addr) (c : Nat) (l : List GReq) (w : World) (hr : RowAt cReq 9 w A l) (hl : l.length ≤ 1000) :
    Calls Try.prog 10 #[.slice A l.length c] w (cellsEnd (.bool (stackedGo [] l)) w) := by
  have HR := Lib.hid hr
  clear hr
  have hmm := @run_makeMap Try.prog
  obtain ⟨i0, hi, hz0, hz1, hz2⟩ := info_parts info28
  have HI := Lib.hid hi
  have HZ0 := Lib.hid hz0
  have HZ1 := Lib.hid hz1
  have HZ2 := Lib.hid hz2
  clear hi hz0 hz1 hz2
  go_enter Try.func10, Try.ntmps10
  go_wp2
  go_loopw [10] (fun i wr => ∃ k : Nat, k ≤ l.length ∧ i = .int .i64 k ∧ Hid (StkInv l w w.heap.size k wr)) (fun i _ => l.length - (intOf i).toNat)
  case atStart => exact ⟨0, Nat.zero_le _, rfl, [], [], mapAt_made _ _, Stk.start _ _, rfl, (Below.refl _ _).alloc (Nat.le_refl _) _, by simp⟩
  case round =>
    obtain ⟨k, hk, rfl, hinv⟩ := hrel
    by_cases hlt : k < l.length
    · obtain ⟨x, hx⟩ : ∃ x, l[k]? = some x := ⟨l[k], by simp [hlt]⟩
      obtain ⟨⟨⟨xr, xs⟩, xo, xu⟩, ⟨xk, xa, xn, ⟨xy, xz⟩⟩⟩ := x
      obtain ⟨ad, rfl, hcell⟩ := HR.out.2 k _ hx
      obtain ⟨m, M, hm, hs, h1, h2, h3⟩ := hinv
      obtain ⟨c0, c1, c2, c3, c4, c5, c6, c7, c8⟩ := (ReqAt.of hcell).below h2
      have hd := drop_at hx
      have hgo : stackedGo [] l = stackedGo M (⟨⟨⟨xr, xs⟩, xo, xu⟩, ⟨xk, xa, xn, ⟨xy, xz⟩⟩⟩ :: l.drop (k + 1)) := by rw [h1, hd]
      obtain ⟨A0, cp, hA, hn, hown, hapart⟩ := hs.get ⟨xr, xs⟩
      generalize hks : (look M ⟨xr, xs⟩).getD [] = ks at hA hn hown hapart
      have hrun : ∀ (W : World), World.mapAt W eId w.heap.size m → (Instr.lookup 51 (.map (some w.heap.size)) (.agg #[i64 xr, i64 xs]) false).run Try.prog W = .ok (.slice A0 ks.length cp) W := fun W hW => by
        have := lookup_run (enc := eId) Try.underlying51 KTId hW (zero52 W) ⟨xr, xs⟩
        rw [hA] at this
        exact this
      dsimp only at c0 c1 c2 c3 c4 c5 c6 c7 c8
      have HRUN := Lib.hid hrun
      have H2 := Lib.hid h2
      have H3 := Lib.hid h3
      have HM := Lib.hid hm
      have HGO := Lib.hid hgo
      have HS := Lib.hid hs
      have HOWN := Lib.hid hown
      have HAP := Lib.hid hapart
      have HKS := Lib.hid hks
      have k0 : (0 : Int) ≤ (k : Int) := Int.natCast_nonneg _
      have k1 : (k : Int) < (l.length : Int) := by omega
      clear hx h1 h2 h3 hcell hm hd hgo hs hA hown hapart hks hrun
      cases xu
      · go_wp2_with (first
          | (at_lookup; refine wpList_lookup_m rfl _ _ _ _ rfl (HRUN.out _ (mapAt_alloc HM.out _)) ?_))
        refine wp_abs (St w wr.heap.size w.heap.size k m M ⟨⟨⟨xr, xs⟩, xo, false⟩, ⟨xk, xa, xn, ⟨xy, xz⟩⟩⟩ (.slice A0 ks.length cp) ks) (St.start _ H2.out HM.out HS.out HOWN.out) ?_
        intro W0 hS0
        have HS0 := Lib.hid hS0
        clear hS0 c0 c1 c2 c3 c4 c5 c6 c7 c8
        go_region_held3 (fun W => (W.cell? ⟨wr.heap.size, 0, none⟩ = some (.int .i64 xr) ∧ W.cell? ⟨wr.heap.size, 1, none⟩ = some (.int .i64 xs) ∧ W.cell? ⟨wr.heap.size, 2, none⟩ = some (.int .i64 xo) ∧ W.cell? ⟨wr.heap.size, 3, none⟩ = some (.bool false)
          ∧ W.cell? ⟨wr.heap.size, 4, none⟩ = some (.int .i64 xk) ∧ W.cell? ⟨wr.heap.size, 5, none⟩ = some (.int .i64 xa) ∧ W.cell? ⟨wr.heap.size, 6, none⟩ = some (.int .i64 xn) ∧ W.cell? ⟨wr.heap.size, 7, none⟩ = some (.int .i64 xy) ∧ W.cell? ⟨wr.heap.size, 8, none⟩ = some (.int .i64 xz)) ∧ Hid (Below w.heap.size w W))
          (first | exact HSb.out | exact HSa.out | exact ReqS.alloc (ReqS.drew HS0.out.box) _ | exact ReqS.drew HS0.out.box)
          (first
            | (refine step_append_lies _ (by rfl) _ _ _ (by rfl) (w.heap.size + 1) 28 i0 _ 4 32 Try.underlying52 HI.out HZ0.out HZ1.out HZ2.out rfl (by decide) (.slice A0 ks.length cp) ks.length (ks.flatMap cKey) (by rfl) (by exact own_drew (HS0.out.own.alloc _)) ⟨W0.heap.size, 0, none⟩ 1 1 [i64 xr, i64 xs, i64 xo, .bool false] (by rfl) (by rfl) (by exact World.news_of_block (cs := #[i64 xr, i64 xs, i64 xo, .bool false]) (t := 28) (fr := (0, 0)) (heap_alloc_new W0 _)) (by simp [Value.oneCell']) (by decide) (by unfold maxLen; omega) (by omega) (by have := HS0.out.size1; simp; omega) (W0.heap.size + 1) (by simp) ?_; intro g cap w1 hown1 hgrow hat hlt1; have hg1 := (World.grownBy_alloc W0 _ _).trans (undrew hgrow); have HSa := Lib.hid (HS0.out.grown1 hg1); have HMa := Lib.hid (HS0.out.map1 hg1); have HG1 := Lib.hid hg1; have HOWN1 := Lib.hid hown1; have HAT := Lib.hid hat; clear hg1 hown1 hgrow hat hlt1)
            | (obtain ⟨w2, hr2, hm2, hg2⟩ := updId (w := w1) (b := w.heap.size) HMa.out ⟨xr, xs⟩ (.slice (some ⟨g, 0, none⟩) (ks.length + 1) cap); rw [hr2]; simp only [Result.andThen_ok, Oper.upon_skip]; have HSb := Lib.hid (HSa.out.grown hg2 (by have := HS0.out.far.2; simpa using this) (fun j hj => by cases hj; exact Nat.le_refl _)); have HM2 := Lib.hid hm2; have HG2 := Lib.hid hg2; clear hm2 hg2 hr2))
        have hres : stackedGo [] l = stackedGo (put M ⟨xr, xs⟩ (ks ++ [⟨⟨xr, xs⟩, xo, false⟩])) (l.drop (k + 1)) := by rw [HGO.out, stackedGo]; simp [HKS.out]
        have HRES := Lib.hid hres
        clear hres
        go_wp2
        go_roundw
        case rel => exact ⟨k + 1, by omega, by go_num, _, _, HM2.out, push_done HS0.out.map HS0.out.stk ⟨xr, xs⟩ ⟨⟨xr, xs⟩, xo, false⟩ hn HS0.out.own HAP.out HOWN1.out HG1.out HAT.out (by simp) HG2.out, HRES.out, HSb.out.2.out, Nat.le_trans HS0.out.size1 (Nat.le_trans HG1.out.size HG2.out.size)⟩
        case measure => simp [intOf]; omega
      · rcases nil_or_snoc ks with rfl | ⟨ks', kk, rfl⟩
        · have hres : stackedGo [] l = false := by rw [HGO.out, stackedGo]; simp [HKS.out]
          have HRES := Lib.hid hres
          clear hres
          go_wp2_with (first
            | (at_lookup; refine wpList_lookup_m rfl _ _ _ _ rfl (HRUN.out _ (mapAt_alloc HM.out _)) ?_))
          go_quiet (fail)
          go_wp2
          go_ret
          exact ⟨by rw [HRES.out]; rfl, below_drewN (H2.out.alloc H2.out.size _) _⟩
        · obtain ⟨⟨kr, ks1⟩, ko, ku⟩ := kk
          have hn' : ks'.length + 1 ≤ k := by simpa using hn
          have hln : (ks' ++ [(⟨⟨kr, ks1⟩, ko, ku⟩ : GKey)]).length = ks'.length + 1 := by simp
          have hA0 := HOWN.out
          have hap := HAP.out
          have hrun := HRUN.out
          rw [hln] at hap hrun
          rw [hln, flat_snoc] at hA0
          obtain ⟨g, rfl, hcp⟩ := own_form hA0
          have HOWN' := Lib.hid hA0
          have HAP' := Lib.hid hap
          have HRUN' := Lib.hid hrun
          have hcp0 : ¬ cp = 0 := by omega
          have hi1 : ((ks'.length : Int) + 1 == 0) = false := beq_eq_false_iff_ne.2 (by omega)
          clear hA0 hap hrun HOWN HAP HRUN hln hn
          go_wp2_with (first
            | (at_lookup; refine wpList_lookup_m rfl _ _ _ _ rfl (HRUN'.out _ (mapAt_alloc HM.out _)) ?_))
          have hOth : ∀ W, Calls Try.prog 20 #[.agg #[.int .i64 xr, .int .i64 xs, .int .i64 xo, .bool true]] W (cellsEnd (.agg #[.int .i64 xr, .int .i64 xs, .int .i64 xo, .bool false]) W) := fun W => other_calls ⟨⟨xr, xs⟩, xo, true⟩ W
          have HOTH := Lib.hid hOth
          clear hOth
          refine wp_abs (Sp w wr.heap.size w.heap.size k m M ⟨⟨⟨xr, xs⟩, xo, true⟩, ⟨xk, xa, xn, ⟨xy, xz⟩⟩⟩ g cp ks' ⟨⟨kr, ks1⟩, ko, ku⟩) (Sp.start _ H2.out HM.out HS.out HOWN'.out) ?_
          intro W0 hS0
          have HS0 := Lib.hid hS0
          clear hS0 c0 c1 c2 c3 c4 c5 c6 c7 c8
          have hN : ∀ (b : Bool), decide ((⟨⟨kr, ks1⟩, ko, ku⟩ : GKey) = ⟨⟨xr, xs⟩, xo, false⟩) = b → ∀ (W : World), (binOp .neq 28 (.agg #[.int .i64 kr, .int .i64 ks1, .int .i64 ko, .bool ku]) (.agg #[.int .i64 xr, .int .i64 xs, .int .i64 xo, .bool false])).run Try.prog W = .ok (.bool (!b)) W := fun b hb W => by
            rw [run_neq_struct, ← hb]; exact congrArg (fun r => Result.andThen r _) (eqKey 9997 ⟨⟨kr, ks1⟩, ko, ku⟩ ⟨⟨xr, xs⟩, xo, false⟩ W)
          have HN := Lib.hid hN
          clear hN
          have hw1 : IntKind.i64.wrap ((ks'.length : Int) + 1 - 1) = (ks'.length : Int) := by rw [show (ks'.length : Int) + 1 - 1 = ks'.length by omega]; exact IntWalk.i64_in _ (by omega)
          have hw2 : IntKind.i64.wrap (ks'.length : Int) = (ks'.length : Int) := IntWalk.i64_in _ (by omega)
          have hw6 : (ks'.length : Int) ≤ (cp : Int) := by omega
          have hw3 : (0 : Int) ≤ (ks'.length : Int) := Int.natCast_nonneg _
          have hw4 : (ks'.length : Int) < (ks'.length : Int) + 1 := by omega
          have hw5 : IntKind.i64.wrap ((ks'.length : Int) + 1) = (ks'.length : Int) + 1 := IntWalk.i64_in _ (by omega)
          by_cases hkk : (⟨⟨kr, ks1⟩, ko, ku⟩ : GKey) = ⟨⟨xr, xs⟩, xo, false⟩
          · have hN := HN.out true (decide_eq_true hkk)
            simp only [Bool.not_true] at hN
            have hgo2 : stackedGo [] l = if ks'.length + 1 = 1 then stackedGo (del (put M ⟨xr, xs⟩ ks') ⟨xr, xs⟩) (l.drop (k + 1)) else stackedGo (put M ⟨xr, xs⟩ ks') (l.drop (k + 1)) := by rw [HGO.out, stackedGo]; simp [HKS.out, other, hkk]
            have HGO2 := Lib.hid hgo2
            clear hgo2 hkk
            go_region_held3 (fun W => ((W.cell? ⟨g, ks'.length * 4, none⟩ = some (.int .i64 kr) ∧ W.cell? ⟨g, ks'.length * 4 + 1, none⟩ = some (.int .i64 ks1) ∧ W.cell? ⟨g, ks'.length * 4 + 2, none⟩ = some (.int .i64 ko) ∧ W.cell? ⟨g, ks'.length * 4 + 3, none⟩ = some (.bool ku)) ∧ (W.cell? ⟨wr.heap.size, 0, none⟩ = some (.int .i64 xr) ∧ W.cell? ⟨wr.heap.size, 1, none⟩ = some (.int .i64 xs) ∧ W.cell? ⟨wr.heap.size, 2, none⟩ = some (.int .i64 xo) ∧ W.cell? ⟨wr.heap.size, 3, none⟩ = some (.bool true)
          ∧ W.cell? ⟨wr.heap.size, 4, none⟩ = some (.int .i64 xk) ∧ W.cell? ⟨wr.heap.size, 5, none⟩ = some (.int .i64 xa) ∧ W.cell? ⟨wr.heap.size, 6, none⟩ = some (.int .i64 xn) ∧ W.cell? ⟨wr.heap.size, 7, none⟩ = some (.int .i64 xy) ∧ W.cell? ⟨wr.heap.size, 8, none⟩ = some (.int .i64 xz)) ∧ Hid (Below w.heap.size w W)))
              (first | exact ⟨last_cells HS1.out.own, HS1.out.box⟩ | exact ⟨last_cells HS0.out.drew.own, HS0.out.drew.box⟩)
              ((go_at_call 20; refine (HOTH.out _).mono ?_; rintro e w1 ⟨rfl, hb⟩; have HS1 := Lib.hid (HS0.out.drew.next hb); clear hb))
            have HS1' := Lib.hid HS1.out.drew
            go_wp2
            go_region_held3 (fun W => ((W.cell? ⟨wr.heap.size, 0, none⟩ = some (.int .i64 xr) ∧ W.cell? ⟨wr.heap.size, 1, none⟩ = some (.int .i64 xs) ∧ W.cell? ⟨wr.heap.size, 2, none⟩ = some (.int .i64 xo) ∧ W.cell? ⟨wr.heap.size, 3, none⟩ = some (.bool true)
          ∧ W.cell? ⟨wr.heap.size, 4, none⟩ = some (.int .i64 xk) ∧ W.cell? ⟨wr.heap.size, 5, none⟩ = some (.int .i64 xa) ∧ W.cell? ⟨wr.heap.size, 6, none⟩ = some (.int .i64 xn) ∧ W.cell? ⟨wr.heap.size, 7, none⟩ = some (.int .i64 xy) ∧ W.cell? ⟨wr.heap.size, 8, none⟩ = some (.int .i64 xz)) ∧ Hid (Below w.heap.size w W)))
              (first | exact HSb.out | exact HS1'.out.box)
              ((obtain ⟨w2, hr2, hm2, hg2⟩ := updId (w := w1.drew) (b := w.heap.size) HS1'.out.map ⟨xr, xs⟩ (.slice (some ⟨g, 0, none⟩) ks'.length cp); rw [hr2]; simp only [Result.andThen_ok, Oper.upon_skip]; have HSb := Lib.hid (HS1'.out.box.grown hg2 (by have := HS1'.out.far; simpa using this) (fun j hj => by cases hj; exact Nat.le_refl _)); have HM2 := Lib.hid hm2; have HG2 := Lib.hid hg2; clear hm2 hg2 hr2))
            have HST := Lib.hid (pop_done HS1'.out.map HS1'.out.stk ⟨xr, xs⟩ hn' HS1'.out.own HAP'.out HG2.out)
            by_cases hz : ks' = []
            · subst hz
              have hres : stackedGo [] l = stackedGo (del (put M ⟨xr, xs⟩ []) ⟨xr, xs⟩) (l.drop (k + 1)) := by rw [HGO2.out]; rfl
              have HRES := Lib.hid hres
              clear hres
              go_wp2_with (at_delete; refine wpList_delete_m rfl _ _ _ rfl w.heap.size (eId ⟨xr, xs⟩) (by rfl) (by rfl) (by exact delete_run (enc := eId) Try.underlying51 KTId HM2.out ⟨xr, xs⟩ _ _ rfl) ?_; rintro w3 ⟨hm3, hg3⟩)
              go_roundw
              case rel => exact ⟨k + 1, by omega, by go_num, _, _, hm3, HST.out.del _ (fun v n xs h => h.kept hg3 (own_ne_map HM2.out h)), HRES.out, (HSb.out.grown hg3 (by have := HS1'.out.far; simpa using this) (fun j hj => by cases hj; exact Nat.le_refl _)).2.out, Nat.le_trans HS1'.out.size1 (Nat.le_trans HG2.out.size hg3.size)⟩
              case measure => simp [intOf]; omega
            · have hz1 : ¬ ks'.length = 0 := fun e => hz (List.eq_nil_of_length_eq_zero e)
              have hres : stackedGo [] l = stackedGo (put M ⟨xr, xs⟩ ks') (l.drop (k + 1)) := by rw [HGO2.out, if_neg (by omega)]
              have HRES := Lib.hid hres
              have hz2 : (((ks'.length : Int) + 1) == 1) = false := beq_eq_false_iff_ne.2 (by omega)
              clear hres hz
              go_wp2
              go_roundw
              case rel => exact ⟨k + 1, by omega, by go_num, _, _, HM2.out, HST.out, HRES.out, HSb.out.2.out, Nat.le_trans HS1'.out.size1 HG2.out.size⟩
              case measure => simp [intOf]; omega
          · have hN := HN.out false (decide_eq_false hkk)
            simp only [Bool.not_false] at hN
            have hres : stackedGo [] l = false := by rw [HGO.out, stackedGo]; simp [HKS.out, other, hkk]
            have HRES := Lib.hid hres
            clear hres hkk
            go_region_held3 (fun W => ((W.cell? ⟨g, ks'.length * 4, none⟩ = some (.int .i64 kr) ∧ W.cell? ⟨g, ks'.length * 4 + 1, none⟩ = some (.int .i64 ks1) ∧ W.cell? ⟨g, ks'.length * 4 + 2, none⟩ = some (.int .i64 ko) ∧ W.cell? ⟨g, ks'.length * 4 + 3, none⟩ = some (.bool ku)) ∧ (W.cell? ⟨wr.heap.size, 0, none⟩ = some (.int .i64 xr) ∧ W.cell? ⟨wr.heap.size, 1, none⟩ = some (.int .i64 xs) ∧ W.cell? ⟨wr.heap.size, 2, none⟩ = some (.int .i64 xo) ∧ W.cell? ⟨wr.heap.size, 3, none⟩ = some (.bool true)
          ∧ W.cell? ⟨wr.heap.size, 4, none⟩ = some (.int .i64 xk) ∧ W.cell? ⟨wr.heap.size, 5, none⟩ = some (.int .i64 xa) ∧ W.cell? ⟨wr.heap.size, 6, none⟩ = some (.int .i64 xn) ∧ W.cell? ⟨wr.heap.size, 7, none⟩ = some (.int .i64 xy) ∧ W.cell? ⟨wr.heap.size, 8, none⟩ = some (.int .i64 xz)) ∧ Hid (Below w.heap.size w W)))
              (first | exact ⟨last_cells HS1.out.own, HS1.out.box⟩ | exact ⟨last_cells HS0.out.drew.own, HS0.out.drew.box⟩)
              ((go_at_call 20; refine (HOTH.out _).mono ?_; rintro e w1 ⟨rfl, hb⟩; have HS1 := Lib.hid (HS0.out.drew.next hb); clear hb))
            go_wp2
            go_ret
            exact ⟨by rw [HRES.out]; rfl, HS1.out.box.2.out⟩
    · have hk' : k = l.length := by omega
      subst hk'
      obtain ⟨m, M, hm, hs, h1, h2, h3⟩ := hinv
      have hres : stackedGo [] l = true := by rw [h1]; simp [stackedGo]
      have HRES := Lib.hid hres
      have H2 := Lib.hid h2
      clear hres h1 h2 hm hs h3
      go_wp2
      go_ret
      exact ⟨by rw [HRES.out]; rfl, H2.out⟩
end Go.Proofs.Yteddfmhlnahdjaa
