/- More laws of the instructions: literals, arrays, functions as values, comparisons; and each law that looks at no memory once more for regions in any order. -/
import Derived.Test.YtihbhklcnbdijaaExec
set_option linter.unusedSimpArgs false
set_option linter.unusedVariables false
namespace Go.Proofs.Ytihbhklcnbdijaa
open Go
section
variable {P : Program} {h : Heap} {k : Value → Prop}
/-! ### Literals -/
theorem cells_agg (cs : Array Value) : (Value.agg cs).cells = cs := rfl
def placesL (P : Program) : List Field → Option (List (Nat × Nat))
  | [] => some []
  | f :: l => match P.info? f.type, placesL P l with
    | some i, some r => some ((f.offset, i.size) :: r)
    | _, _ => none
def bldInfo (P : Program) (t : TypeId) : Option (Array Value × Array (Nat × Nat)) :=
  match P.underlying t, P.info? t with
  | some (.struct fs), some i => match i.zero, placesL P fs.toList with
    | some z, some r => some (z.cells, ⟨r⟩)
    | _, _ => none
  | _, _ => none
theorem run_placesL {w : World} : ∀ {l : List Field} {r : List (Nat × Nat)}, placesL P l = some r → (l.mapM fun f => do let n ← sizeOf f.type; pure (f.offset, n) : Sem (List (Nat × Nat))).run P w = .ok r w
  | [], r, hr => by simp [placesL] at hr; subst hr; simp
  | f :: l, r, hr => by
    simp only [placesL] at hr
    split at hr
    · rename_i i r' hi hl
      injection hr with hr; subst hr
      have hs : (sizeOf f.type).run P w = .ok i.size w := by simp [sizeOf, typeInfo, hi]
      rw [List.mapM_cons]
      simp only [Sem.run_bind, hs, Result.andThen_ok, Sem.run_pure, run_placesL hl]
    · cases hr
theorem rd_bld {t : TypeId} {zc : Array Value} {ps : Array (Nat × Nat)} {parts : Array (Nat × Value)} {cells : Array Value} (hb : bldInfo P t = some (zc, ps)) (hf : Instr.fill (ps[·]?) zc parts.toList = some cells) : rd P h (Instr.build t parts) k = k (.agg cells) := by
  unfold bldInfo at hb
  split at hb
  · rename_i fs i hu hi
    split at hb
    · rename_i z r hz hr
      injection hb with hb
      injection hb with hb1 hb2
      subst hb1 hb2
      refine rd_eq (fun w hw => ?_) k
      have h1 := run_underlying hu w
      have h2 : (fs.mapM fun f => do let n ← sizeOf f.type; pure (f.offset, n) : Sem (Array (Nat × Nat))).run P w = .ok ⟨r⟩ w := by
        rw [Array.mapM_eq_mapM_toList]
        show ((fs.toList.mapM fun f => do let n ← sizeOf f.type; pure (f.offset, n) : Sem (List (Nat × Nat))) >>= fun l => pure l.toArray).run P w = _
        simp only [Sem.run_bind, run_placesL hr, Result.andThen_ok, Sem.run_pure]
      have hzv : (zeroValue t).run P w = .ok z w := by simp [zeroValue, typeInfo, hi, hz]
      unfold Instr.build
      simp only [Sem.run_bind, hzv, Result.andThen_ok, h1, h2, hf, Sem.run_pure]
    · cases hb
  · cases hb
/-- An array type: its length, and of how many cells an element is. -/
def arrN (P : Program) (t : TypeId) : Option (Nat × Nat) :=
  match P.underlying t with
  | some (.array n e) => (P.info? e).map fun i => (n, i.size)
  | _ => none
theorem arrN_at {t : TypeId} {n sz : Nat} (hs : arrN P t = some (n, sz)) : ∃ e i, P.underlying t = some (.array n e) ∧ P.info? e = some i ∧ i.size = sz := by
  unfold arrN at hs
  split at hs
  · rename_i m e hu
    simp only [Option.map_eq_some_iff, Prod.mk.injEq] at hs
    obtain ⟨i, hi, rfl, hn⟩ := hs
    exact ⟨e, i, hu, hi, hn⟩
  · cases hs
theorem rd_blda {t : TypeId} {n sz : Nat} {z : List Value} {by_ m : Nat} {parts : Array (Nat × Value)} {cells : Array Value} (hs : arrN P t = some (n, sz)) (ht : TI P t z m by_) (hf : Instr.fill (fun i => some (i * sz, sz)) ⟨z⟩ parts.toList = some cells) : rd P h (Instr.build t parts) k = k (.agg cells) := by
  obtain ⟨e, i, hu, hi, rfl⟩ := arrN_at hs
  obtain ⟨i', zv, hi', hz, hzl, _, _⟩ := ht.ex
  refine rd_eq (fun w hw => ?_) k
  have h1 := run_underlying hu w
  have hzv : (zeroValue t).run P w = .ok zv w := by simp [zeroValue, typeInfo, hi', hz]
  have hsz : (sizeOf e).run P w = .ok i.size w := by simp [sizeOf, typeInfo, hi]
  have hzc : zv.cells = ⟨z⟩ := by rw [← hzl]
  unfold Instr.build
  simp only [Sem.run_bind, hzv, Result.andThen_ok, h1, hsz, hzc, hf, Sem.run_pure]
/-- One part of one cell. -/
theorem fill_one {place : Nat → Option (Nat × Nat)} {c : Array Value} {i off : Nat} {v : Value} {rest : List (Nat × Value)} (hp : place i = some (off, 1)) (hv : sc1 v = true) (ho : off < c.size) : Instr.fill place c ((i, v) :: rest) = Instr.fill place (c.setIfInBounds off v) rest := by
  simp only [Instr.fill, hp, sc1_cells hv]
  have : ¬ (c.size < off + 1) := by omega
  simp [this]
theorem fill_nil {place : Nat → Option (Nat × Nat)} {c : Array Value} : Instr.fill place c [] = some c := rfl
/-- A field's value, of a struct's value: of one cell. -/
def fldSc (P : Program) (s : TypeId) (g : Nat) : Option Nat :=
  match P.underlying s with
  | some (.struct fs) => match fs[g]? with
    | some f => cond (scT P f.type) (some f.offset) none
    | none => none
  | _ => none
theorem run_part {t : TypeId} {w : World} {cs : Array Value} {o : Nat} {v : Value} (hs : scT P t = true) (hv : cs[o]? = some v) : (part t cs o).run P w = .ok v w := by
  simp [part, run_isAgg_sc hs, hv]
theorem rd_fv {s : TypeId} {g o : Nat} {l : List Value} {v : Value} (hf : fldSc P s g = some o) (hv : l[o]? = some v) : rd P h (Instr.field s (.agg ⟨l⟩) g) k = k v := by
  refine rd_eq (fun w hw => ?_) k
  unfold fldSc at hf
  split at hf
  · rename_i fs hu
    split at hf
    · rename_i f hfs
      cases hsc : scT P f.type with
      | false => rw [hsc] at hf; cases hf
      | true =>
        rw [hsc] at hf
        injection hf with hf; subst hf
        have h1 := run_underlying hu w
        have h2 := run_part (P := P) (w := w) (cs := ⟨l⟩) (o := f.offset) hsc (by simpa using hv)
        simp [Instr.field, h1, hfs, asAgg, h2]
    · cases hf
  · cases hf
/-- An element of an array's value. -/
theorem rd_av {t e : TypeId} {n i : Nat} {ik : IntKind} {l : List Value} {v : Value} (hu : P.underlying t = some (.array n e)) (he : scT P e = true) (hz : (P.info? e).map (·.size) = some 1) (hi : i < n) (hv : l[i]? = some v) : rd P h (Instr.index t (.agg ⟨l⟩) (.int ik (i : Int))) k = k v := by
  refine rd_eq (fun w hw => ?_) k
  have h1 := run_underlying hu w
  obtain ⟨inf, hinf, hsz⟩ := Option.map_eq_some_iff.1 hz
  have h3 : (sizeOf e).run P w = .ok 1 w := by simp [sizeOf, typeInfo, hinf, hsz]
  have h2 := run_part (P := P) (w := w) (cs := ⟨l⟩) (o := i) he (by simpa using hv)
  have h4 : (i : Int) < (n : Int) := by omega
  have h5 : ¬ n ≤ i := by omega
  simp [Instr.index, asIntOf, h1, h3, h2, h5]
/-- An element of an array in memory. -/
theorem rd_ixa {t : TypeId} {n sz b o i : Nat} {ik : IntKind} (hs : arrN P t = some (n, sz)) (hi : i < n) : rd P h (Instr.indexAt t (.pointer (some ⟨b, o, none⟩)) (.int ik (i : Int))) k = k (.pointer (some ⟨b, o + i * sz, none⟩)) := by
  obtain ⟨e, inf, hu, hinf, rfl⟩ := arrN_at hs
  refine rd_eq (fun w hw => ?_) k
  have h1 := run_underlying hu w
  have h4 : (i : Int) < (n : Int) := by omega
  simp [Instr.indexAt, asIntOf, Instr.sureAddr, h1, hi, sizeOf, typeInfo, hinf, addr_add]
theorem rd_mf {fn : Fn} {a c : Array Value} : rd P h (Instr.makeFunc fn a c) k = k (.func fn a c) := rd_eq (fun w hw => by simp [Instr.makeFunc]) k
theorem rd_min {at_ : Array TypeId} {ty : TypeId} {kk kk' : IntKind} {a b : Int} : rd P h (Builtin.min_ at_ ty #[.int kk a, .int kk' b]) k = k (.int kk (min a b)) := by
  refine rd_eq (fun w hw => ?_) k
  have : (if b < a then b else a) = min a b := by omega
  simp [Builtin.min_, Builtin.min2, this]
theorem rd_max {at_ : Array TypeId} {ty : TypeId} {kk kk' : IntKind} {a b : Int} : rd P h (Builtin.max_ at_ ty #[.int kk a, .int kk' b]) k = k (.int kk (max a b)) := by
  refine rd_eq (fun w hw => ?_) k
  have : (if b > a then b else a) = max a b := by omega
  simp [Builtin.max_, Builtin.max2, this]
theorem rd_mi {t : TypeId} {x : Value} (hs : P.underlying t ≠ none) (hn : ∀ ms, P.underlying t ≠ some (.interface ms)) : rd P h (Instr.makeInterface t x) k = k (.iface t x) := by
  refine rd_eq (fun w hw => ?_) k
  cases hu : P.underlying t with
  | none => exact absurd hu hs
  | some d =>
    have h1 := run_underlying hu w
    cases d <;> first | exact absurd hu (hn _) | simp [Instr.makeInterface, h1]
/-- 's == nil' of a slice. -/
theorem rd_slnil {t : TypeId} {x y : Operand} {a : Option Addr} {n c : Nat} (hs : (P.underlying t).any (fun d => match d with | .slice _ => true | _ => false) = true) : rd P h (binS .eql t x y (.slice a n c) (.slice none 0 0)) k = k (.bool a.isNone) := by
  refine rd_eq (fun w hw => ?_) k
  cases hu : P.underlying t with
  | none => rw [hu] at hs; cases hs
  | some d =>
    have h1 := run_underlying hu w
    rw [hu] at hs
    cases d <;> first | (cases hs; done) | skip
    have hm : Op.maxDepth = Op.maxDepth - 1 + 1 := by decide
    cases a <;> simp [binS, eqGuard, binOp, Op.equal] <;> rw [hm] <;> simp [Op.equalIn, h1]
/-- '==' of truths. -/
theorem rd_beql {t : TypeId} {x y : Operand} {a b : Bool} (hs : P.underlying t = some .bool) : rd P h (binS .eql t x y (.bool a) (.bool b)) k = k (.bool (a == b)) := by
  refine rd_eq (fun w hw => ?_) k
  have h1 := run_underlying hs w
  have hm : Op.maxDepth = Op.maxDepth - 1 + 1 := by decide
  simp [binS, eqGuard, binOp, Op.equal]; rw [hm]; simp [Op.equalIn, h1]
theorem rd_bneq {t : TypeId} {x y : Operand} {a b : Bool} (hs : P.underlying t = some .bool) : rd P h (binS .neq t x y (.bool a) (.bool b)) k = k (.bool (a != b)) := by
  refine rd_eq (fun w hw => ?_) k
  have h1 := run_underlying hs w
  have hm : Op.maxDepth = Op.maxDepth - 1 + 1 := by decide
  simp [binS, eqGuard, binOp, Op.equal]; rw [hm]; simp [Op.equalIn, h1, bne]
/-- 'p == nil' of a pointer. -/
theorem rd_pnil {t e : TypeId} {x y : Operand} {a : Option Addr} (hs : P.underlying t = some (.pointer e)) : rd P h (binS .eql t x y (.pointer a) (.pointer none)) k = k (.bool a.isNone) := by
  refine rd_eq (fun w hw => ?_) k
  have h1 := run_underlying hs w
  have hm : Op.maxDepth = Op.maxDepth - 1 + 1 := by decide
  cases a <;> simp [binS, eqGuard, binOp, Op.equal] <;> rw [hm] <;> simp [Op.equalIn, h1]
theorem rd_pnnil {t e : TypeId} {x y : Operand} {a : Option Addr} (hs : P.underlying t = some (.pointer e)) : rd P h (binS .neq t x y (.pointer a) (.pointer none)) k = k (.bool a.isSome) := by
  refine rd_eq (fun w hw => ?_) k
  have h1 := run_underlying hs w
  have hm : Op.maxDepth = Op.maxDepth - 1 + 1 := by decide
  cases a <;> simp [binS, eqGuard, binOp, Op.equal] <;> rw [hm] <;> simp [Op.equalIn, h1]
/-- '==' of two '[2]int'. -/
theorem rd_eq2 {t e : TypeId} {x y : Operand} {a b c d : Int} (hs : P.underlying t = some (.array 2 e)) (he : P.underlying e = some (.int .i64)) (hz : (P.info? e).map (·.size) = some 1) (hg : P.eqGuardType P.depth t = false) :
    rd P h (binS .eql t x y (.agg #[.int .i64 a, .int .i64 b]) (.agg #[.int .i64 c, .int .i64 d])) k = k (.bool (a == c && b == d)) := by
  refine rd_eq (fun w hw => ?_) k
  have h1 := run_underlying hs w
  have h2 := run_underlying he w
  have hsc : scT P e = true := by simp [scT, he]
  obtain ⟨inf, hinf, hsz⟩ := Option.map_eq_some_iff.1 hz
  have h3 : (sizeOf e).run P w = .ok 1 w := by simp [sizeOf, typeInfo, hinf, hsz]
  have hm : Op.maxDepth = Op.maxDepth - 2 + 1 + 1 := by decide
  have p1 : ∀ u v : Value, (part e #[u, v] 0).run P w = .ok u w := fun u v => run_part hsc rfl
  have p2 : ∀ u v : Value, (part e #[u, v] 1).run P w = .ok v w := fun u v => run_part hsc rfl
  have q : ∀ n (u v : Int), (Op.equalIn (n + 1) e (.int .i64 u) (.int .i64 v)).run P w = .ok (u == v) w := fun n u v => by simp [Op.equalIn, h2]
  simp [binS, eqGuard, binOp, Op.equal, hg]
  rw [hm]
  unfold Op.equalIn
  simp only [Sem.run_bind, h1, Result.andThen_ok, h3]
  simp
  have hr : List.range' 0 2 = [0, 1] := rfl
  rw [hr]
  simp only [List.forIn_cons, List.forIn_nil, Sem.run_bind, p1, p2, Result.andThen_ok, q]
  by_cases ha : a = c <;> by_cases hb : b = d <;> simp [p2, q, ha, hb]
/-- A function as a value, called. -/
theorem callV_func {g : FuncId} {fs cs args : List Value} {k : Value → Heap → Prop} : callV P (.func (.func g) ⟨fs⟩ ⟨cs⟩) args h k = callF P g (fs ++ args ++ cs) h k := by
  unfold callV callF
  have : (do let d ← Deferred.ofValue (.func (.func g) ⟨fs⟩ ⟨cs⟩) ⟨args⟩; invoke d.target d.args : Sem Next) = callFunc g ⟨fs ++ args ++ cs⟩ := by
    have e : (⟨fs⟩ : Array Value) ++ ⟨args⟩ ++ ⟨cs⟩ = ⟨fs ++ args ++ cs⟩ := by simp
    rw [← e]
    simp [Deferred.ofValue, invoke]
  rw [this]
/-- 'clear' of a slice of our own. -/
theorem sem_clear {t e ty n c b o sz by_ : Nat} {z l : List Value} {k : Value → Heap → Prop} (hs : SlT P t e) (ht : TI P e z sz by_) (hz : z.length = sz) (hr : row h b = some l) (hn : o + n * sz ≤ l.length) (h1 : ∀ v ∈ z, sc1 v = true) (hb : 0 < sz)
    (hk : ∀ zs : List Value, zs.length = n * sz → (∀ j, j < n * sz → zs[j]? = z[j % sz]?) → k (.tuple #[]) (hput h b (lput l o zs))) : sem P (Builtin.clear_ #[t] ty #[.slice (some ⟨b, o, none⟩) n c]) h k := by
  intro w hw
  subst hw
  obtain ⟨i, zv, hi, hzv, hzl, hisz, hiby⟩ := ht.ex
  have hu := run_underlying hs w
  have hzs : zv.cells.size = sz := by rw [← hz, ← hzl]; simp
  have hzz : (zeroValue e).run P w = .ok zv w := by simp [zeroValue, typeInfo, hi, hzv]
  have hlen : (Builtin.zeroCells zv.cells n).toList.length = n * sz := by simp [Builtin.zeroCells, hzs]
  have hget : ∀ j, j < n * sz → (Builtin.zeroCells zv.cells n).toList[j]? = z[j % sz]? := by
    intro j hj
    have hlt : j % sz < sz := Nat.mod_lt _ hb
    rw [← hzl]
    simp only [Builtin.zeroCells, Array.getElem?_toList, Array.getElem?_map, hzs]
    rw [Array.getElem?_range]
    simp [hj]
    rw [Array.getElem!_eq_getD, Array.getD_eq_getD_getElem?]
    simp [hzs, hlt]
  by_cases hn0 : n = 0
  · subst hn0
    refine ⟨.tuple #[], w, by simp [Builtin.clear_, hu], Sm.refl w, ?_⟩
    have h2 := hk [] (by simp) (fun j hj => by simp at hj)
    rw [lput_nil] at h2
    have : hput w.heap b l = w.heap := by
      obtain ⟨c', t', lo, hi', e', hl', rfl⟩ := row_get hr
      apply Array.ext_getElem?
      intro j
      simp only [hput, Array.getElem?_modify]
      split
      · rename_i ej; subst ej; rw [e']; rfl
      · rfl
    rw [this] at h2
    exact h2
  · obtain ⟨w', r1, r2, r3⟩ := run_storeCells (P := P) (o := o) (Builtin.zeroCells zv.cells n).toList 0 l w hr (by rw [hlen]; simpa using hn) (fun v hv => by
      obtain ⟨j, hj⟩ := List.mem_iff_getElem?.1 hv
      have hj' : j < n * sz := by rw [← hlen]; exact (List.getElem?_eq_some_iff.1 hj).1
      rw [hget j hj'] at hj
      exact h1 v (List.mem_of_getElem? hj))
    refine ⟨.tuple #[], w', ?_, r2, ?_⟩
    · obtain ⟨m, rfl⟩ : ∃ m, n = m + 1 := ⟨n - 1, by omega⟩
      simp [Builtin.clear_, hu, hzz, r1]
    · rw [r3]
      exact hk _ hlen hget
end
end Go.Proofs.Ytihbhklcnbdijaa
