/- The data of the audit's functions as Lean structures; how they lie in cells; '==' on them; their use as keys. No condition. -/
import Derived.Test.YteddfmhlnahdjaaProg
import Derived.Test.YteddfmhlnahdjaaMap
namespace Go.Proofs.Yteddfmhlnahdjaa
open Go

structure GId where
  r : Int
  s : Int
  deriving DecidableEq
structure GKey where
  id : GId
  ord : Int
  undo : Bool
  deriving DecidableEq
structure GEff where
  kind : Int
  a : Int
  n : Int
  ref : GId
  deriving DecidableEq
structure GReq where
  key : GKey
  what : GEff
  deriving DecidableEq

abbrev i64 (x : Int) : Value := .int .i64 x
def cId (x : GId) : List Value := [i64 x.r, i64 x.s]
def cKey (x : GKey) : List Value := [i64 x.id.r, i64 x.id.s, i64 x.ord, .bool x.undo]
def cEff (x : GEff) : List Value := [i64 x.kind, i64 x.a, i64 x.n, i64 x.ref.r, i64 x.ref.s]
def cReq (x : GReq) : List Value := cKey x.key ++ cEff x.what
def eId (x : GId) : Value := .agg #[i64 x.r, i64 x.s]
def eKey (x : GKey) : Value := .agg #[i64 x.id.r, i64 x.id.s, i64 x.ord, .bool x.undo]
def eEff (x : GEff) : Value := .agg #[i64 x.kind, i64 x.a, i64 x.n, i64 x.ref.r, i64 x.ref.s]
def eReq (x : GReq) : Value := .agg #[i64 x.key.id.r, i64 x.key.id.s, i64 x.key.ord, .bool x.key.undo, i64 x.what.kind, i64 x.what.a, i64 x.what.n, i64 x.what.ref.r, i64 x.what.ref.s]

theorem part_int {P : Program} {t : TypeId} {k : IntKind} (h : P.underlying t = some (.int k)) {cs : Array Value} {off : Nat} {v : Value} (hv : cs[off]? = some v) (w : World) : (part t cs off).run P w = .ok v w := by
  simp [part, isAgg, run_underlying h, hv]
theorem part_bool {P : Program} {t : TypeId} (h : P.underlying t = some .bool) {cs : Array Value} {off : Nat} {v : Value} (hv : cs[off]? = some v) (w : World) : (part t cs off).run P w = .ok v w := by
  simp [part, isAgg, run_underlying h, hv]
theorem part_struct {P : Program} {t : TypeId} {fs : Array Field} {n : Nat} (h : P.underlying t = some (.struct fs)) (hs : (P.info? t).map (·.size) = some n) {cs : Array Value} {off : Nat} (w : World) : (part t cs off).run P w = .ok (.agg (cs.extract off (off + n))) w := by
  cases hi : P.info? t with
  | none => simp [hi] at hs
  | some i => simp [hi] at hs; simp [part, isAgg, run_underlying h, sizeOf, typeInfo, hi, hs]

section
variable {P : Program} {d : Nat} {xs ys : Array Value} {f : Field} {fs : List Field} {a b : Value} {r s : Bool} {w : World}
theorem eqf_nil : (Op.eqFields d xs ys []).run P w = .ok true w := by simp [Op.eqFields]
theorem eqf_cons (hn : (f.name == "_") = false) (ha : (part f.type xs f.offset).run P w = .ok a w) (hb : (part f.type ys f.offset).run P w = .ok b w) (he : (Op.equalIn d f.type a b).run P w = .ok r w) (hr : (Op.eqFields d xs ys fs).run P w = .ok s w) : (Op.eqFields d xs ys (f :: fs)).run P w = .ok (r && s) w := by
  have hn' : f.name ≠ "_" := by simpa using hn
  rw [Op.eqFields]
  simp only [if_pos hn', Sem.run_bind, ha, hb, he, Result.andThen_ok]
  cases r
  · simp
  · simpa using hr
theorem eqA_of {t : TypeId} {fs : Array Field} (hu : P.underlying t = some (.struct fs)) (hp : P.stoodInHeld t = false) (h : (Op.eqFields d xs ys fs.toList).run P w = .ok r w) : (Op.equalIn (d + 1) t (.agg xs) (.agg ys)).run P w = .ok r w := by
  have hf : P.fieldsOf t = fs := by simp [Program.fieldsOf, hu]
  rw [run_equalIn_struct (P := P) w d t xs ys (by rw [hf]; exact hu) hp, hf]
  exact h
end

theorem s26 : (Try.prog.info? 26).map (·.size) = some 2 := by kernel_rfl
theorem s28 : (Try.prog.info? 28).map (·.size) = some 4 := by kernel_rfl
theorem s30 : (Try.prog.info? 30).map (·.size) = some 5 := by kernel_rfl
theorem s32 : (Try.prog.info? 32).map (·.size) = some 9 := by kernel_rfl

theorem eqId (d : Nat) (x y : GId) (w : World) : (Op.equalIn (d + 2) 26 (eId x) (eId y)).run Try.prog w = .ok (decide (x = y)) w := by
  have h3 := Try.underlying3
  have := eqA_of (w := w) (r := (x.r == y.r && (x.s == y.s && true))) (xs := #[i64 x.r, i64 x.s]) (ys := #[i64 y.r, i64 y.s]) Try.underlying26 (by kernel_rfl)
    (eqf_cons rfl (part_int h3 rfl w) (part_int h3 rfl w) (run_equalIn_int w d 3 .i64 .i64 _ _ h3) (eqf_cons rfl (part_int h3 rfl w) (part_int h3 rfl w) (run_equalIn_int w d 3 .i64 .i64 _ _ h3) eqf_nil))
  unfold eId
  rw [this]
  congr 1
  cases x; cases y
  rw [Bool.eq_iff_iff]; simp
theorem eqKey (d : Nat) (x y : GKey) (w : World) : (Op.equalIn (d + 3) 28 (eKey x) (eKey y)).run Try.prog w = .ok (decide (x = y)) w := by
  have h3 := Try.underlying3
  have h4 := Try.underlying4
  have := eqA_of (w := w) (r := (decide (x.id = y.id) && (x.ord == y.ord && (x.undo == y.undo && true)))) (xs := #[i64 x.id.r, i64 x.id.s, i64 x.ord, .bool x.undo]) (ys := #[i64 y.id.r, i64 y.id.s, i64 y.ord, .bool y.undo]) Try.underlying28 (by kernel_rfl)
    (eqf_cons rfl (part_struct Try.underlying26 s26 w) (part_struct Try.underlying26 s26 w) (eqId d x.id y.id w) (eqf_cons rfl (part_int h3 rfl w) (part_int h3 rfl w) (run_equalIn_int w (d+1) 3 .i64 .i64 _ _ h3)
     (eqf_cons rfl (part_bool h4 rfl w) (part_bool h4 rfl w) (run_equalIn_bool' w (d+1) 4 _ _ h4) eqf_nil)))
  unfold eKey
  rw [this]
  congr 1
  cases x; cases y
  rw [Bool.eq_iff_iff]; simp
theorem eqEff (d : Nat) (x y : GEff) (w : World) : (Op.equalIn (d + 3) 30 (eEff x) (eEff y)).run Try.prog w = .ok (decide (x = y)) w := by
  have h3 := Try.underlying3
  have h2 := Try.underlying2
  have := eqA_of (w := w) (r := (x.kind == y.kind && (x.a == y.a && (x.n == y.n && (decide (x.ref = y.ref) && true))))) (xs := #[i64 x.kind, i64 x.a, i64 x.n, i64 x.ref.r, i64 x.ref.s]) (ys := #[i64 y.kind, i64 y.a, i64 y.n, i64 y.ref.r, i64 y.ref.s]) Try.underlying30 (by kernel_rfl)
    (eqf_cons rfl (part_int h3 rfl w) (part_int h3 rfl w) (run_equalIn_int w (d+1) 3 .i64 .i64 _ _ h3) (eqf_cons rfl (part_int h3 rfl w) (part_int h3 rfl w) (run_equalIn_int w (d+1) 3 .i64 .i64 _ _ h3)
     (eqf_cons rfl (part_int h2 rfl w) (part_int h2 rfl w) (run_equalIn_int w (d+1) 2 .i64 .i64 _ _ h2) (eqf_cons rfl (part_struct Try.underlying26 s26 w) (part_struct Try.underlying26 s26 w) (eqId d x.ref y.ref w) eqf_nil))))
  unfold eEff
  rw [this]
  congr 1
  cases x; cases y
  rw [Bool.eq_iff_iff]; simp
theorem eqReq (d : Nat) (x y : GReq) (w : World) : (Op.equalIn (d + 4) 32 (eReq x) (eReq y)).run Try.prog w = .ok (decide (x = y)) w := by
  have := eqA_of (w := w) (d := d + 3) (r := (decide (x.key = y.key) && (decide (x.what = y.what) && true))) (xs := #[i64 x.key.id.r, i64 x.key.id.s, i64 x.key.ord, .bool x.key.undo, i64 x.what.kind, i64 x.what.a, i64 x.what.n, i64 x.what.ref.r, i64 x.what.ref.s]) (ys := #[i64 y.key.id.r, i64 y.key.id.s, i64 y.key.ord, .bool y.key.undo, i64 y.what.kind, i64 y.what.a, i64 y.what.n, i64 y.what.ref.r, i64 y.what.ref.s]) Try.underlying32 (by kernel_rfl)
    (eqf_cons rfl (part_struct Try.underlying28 s28 w) (part_struct Try.underlying28 s28 w) (eqKey d x.key y.key w) (eqf_cons rfl (part_struct Try.underlying30 s30 w) (part_struct Try.underlying30 s30 w) (eqEff d x.what y.what w) eqf_nil))
  unfold eReq
  rw [this]
  congr 1
  cases x; cases y
  rw [Bool.eq_iff_iff]; simp

theorem ckPlain {P : Program} (e : Bool) (d : Nat) {t : TypeId} {k : IntKind} (h : P.underlying t = some (.int k)) (v : Value) (hv : ∃ n, v = .int k n) (w : World) : (Instr.checkKey e (d + 1) t v).run P w = .ok () w := by
  obtain ⟨n, rfl⟩ := hv
  simp [Instr.checkKey, run_underlying h]
theorem ckBool {P : Program} (e : Bool) (d : Nat) {t : TypeId} (h : P.underlying t = some .bool) (b : Bool) (w : World) : (Instr.checkKey e (d + 1) t (.bool b)).run P w = .ok () w := by
  simp [Instr.checkKey, run_underlying h]
theorem ckId (e : Bool) (d : Nat) (x : GId) (w : World) : (Instr.checkKey e (d + 2) 26 (eId x)).run Try.prog w = .ok () w := by
  have h3 := Try.underlying3
  unfold eId Instr.checkKey
  simp [run_underlying Try.underlying26, part_int h3, Instr.checkKey, run_underlying h3]
theorem ckKey (e : Bool) (d : Nat) (x : GKey) (w : World) : (Instr.checkKey e (d + 3) 28 (eKey x)).run Try.prog w = .ok () w := by
  have h3 := Try.underlying3
  have h4 := Try.underlying4
  unfold eKey Instr.checkKey
  simp [run_underlying Try.underlying28, part_int h3, part_bool h4, part_struct Try.underlying26 s26, Instr.checkKey, run_underlying h3, run_underlying h4]
theorem KTKey : KeyT Try.prog 28 GKey eKey where
  eq a b w := eqKey 9997 a b w
  ck e a w := ckKey e 9997 a w
  now d a b _ := by unfold eKey; cases d <;> rfl
  und := ⟨_, Try.underlying28⟩
  same a := by simp [eKey, Instr.sameBits]
theorem KTId : KeyT Try.prog 26 GId eId where
  eq a b w := eqId 9998 a b w
  ck e a w := ckId e 9998 a w
  now d a b _ := by unfold eId; cases d <;> rfl
  und := ⟨_, Try.underlying26⟩
  same a := by simp [eId, Instr.sameBits]
end Go.Proofs.Yteddfmhlnahdjaa
