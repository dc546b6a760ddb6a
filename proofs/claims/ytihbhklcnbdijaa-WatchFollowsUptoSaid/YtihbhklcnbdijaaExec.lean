/- What the instructions do to memory, one law each, over any program. -/
import Derived.Test.YtihbhklcnbdijaaCore
import Derived.Laws.Append
import Derived.Laws.MakeOwn
set_option linter.unusedSimpArgs false
set_option linter.unusedVariables false
namespace Go.Proofs.Ytihbhklcnbdijaa
open Go

/-! ### Memory -/
def hcell (h : Heap) (a : Addr) : Option Value :=
  match h[a.block]? with
  | some (.cells c _ _) => if a.spot.isSome then none else c[a.off]?
  | _ => none
theorem cell_heap (w : World) (a : Addr) : w.cell? a = hcell w.heap a := rfl
/-- A block of cells of which none is frozen. -/
def row (h : Heap) (b : Nat) : Option (List Value) :=
  match h[b]? with
  | some (.cells c _ (lo, hi)) => if hi ≤ lo then some c.toList else none
  | _ => none
/-- The block's cells are these now. -/
def hput (h : Heap) (b : Nat) (l : List Value) : Heap :=
  h.modify b fun
    | .cells _ t fz => .cells ⟨l⟩ t fz
    | o => o
/-- A new block. -/
def hnew (h : Heap) (l : List Value) (t : TypeId) : Heap := h.push (.cells ⟨l⟩ t)
theorem row_lt {h : Heap} {b : Nat} {l : List Value} (hr : row h b = some l) : b < h.size := by
  unfold row at hr
  split at hr
  · rename_i e; exact (Array.getElem?_eq_some_iff.1 e).1
  · cases hr
theorem row_get {h : Heap} {b : Nat} {l : List Value} (hr : row h b = some l) : ∃ c t lo hi, h[b]? = some (.cells c t (lo, hi)) ∧ hi ≤ lo ∧ c.toList = l := by
  unfold row at hr
  split at hr
  · rename_i c t lo hi e
    split at hr
    · rename_i hl; exact ⟨c, t, lo, hi, e, hl, by injection hr⟩
    · cases hr
  · cases hr
theorem hcell_row {h : Heap} {b : Nat} {l : List Value} (hr : row h b = some l) (o : Nat) : hcell h ⟨b, o, none⟩ = l[o]? := by
  obtain ⟨c, t, lo, hi, e, _, rfl⟩ := row_get hr
  simp [hcell, e]
theorem hfree_row {h : Heap} {b : Nat} {l : List Value} (hr : row h b = some l) (w : World) (hw : w.heap = h) (o : Nat) : w.frozen? ⟨b, o, none⟩ = false := by
  obtain ⟨c, t, lo, hi, e, hl, rfl⟩ := row_get hr
  simp only [World.frozen?, hw, e]
  simp; omega
theorem size_hput (h : Heap) (b : Nat) (l : List Value) : (hput h b l).size = h.size := by simp [hput]
theorem size_hnew (h : Heap) (l : List Value) (t : TypeId) : (hnew h l t).size = h.size + 1 := by simp [hnew]
theorem hput_other {h : Heap} {b b' : Nat} {l : List Value} (hne : b' ≠ b) : (hput h b l)[b']? = h[b']? := by
  simp only [hput, Array.getElem?_modify]; rw [if_neg (Ne.symm hne)]
theorem hput_same {h : Heap} {b : Nat} {l l' : List Value} (hr : row h b = some l) : row (hput h b l') b = some l' := by
  obtain ⟨c, t, lo, hi, e, hl, rfl⟩ := row_get hr
  simp only [row, hput, Array.getElem?_modify, e]
  simp [hl]
theorem row_hput_ne {h : Heap} {b b' : Nat} {l : List Value} (hne : b' ≠ b) : row (hput h b l) b' = row h b' := by
  simp only [row, hput_other hne]
theorem hnew_old {h : Heap} {b : Nat} {l : List Value} {t : TypeId} (hb : b < h.size) : (hnew h l t)[b]? = h[b]? := by
  simp only [hnew, Array.getElem?_push]; rw [if_neg (by omega)]
theorem row_hnew_old {h : Heap} {b : Nat} {l : List Value} {t : TypeId} (hb : b < h.size) : row (hnew h l t) b = row h b := by
  simp only [row, hnew_old hb]
theorem row_hnew_new {h : Heap} {l : List Value} {t : TypeId} : row (hnew h l t) h.size = some l := by
  simp [row, hnew]

/-- The blocks of 'F' may have turned, new ones may have come; all else is as it was. -/
structure Fr2 (h h' : Heap) (F : List Nat) : Prop where
  size : h.size ≤ h'.size
  old : ∀ b, b < h.size → b ∉ F → h'[b]? = h[b]?
theorem Fr2.refl (h : Heap) (F : List Nat) : Fr2 h h F := ⟨Nat.le_refl _, fun _ _ _ => rfl⟩
theorem Fr2.row {h h' : Heap} {F : List Nat} (f : Fr2 h h' F) {b : Nat} {l : List Value} (hr : row h b = some l) (hb : b ∉ F) : row h' b = some l := by
  rw [← hr]; unfold Go.Proofs.Ytihbhklcnbdijaa.row; rw [f.old b (row_lt hr) hb]
theorem Fr2.cell {h h' : Heap} {F : List Nat} (f : Fr2 h h' F) {a : Addr} {v : Value} (hc : hcell h a = some v) (hb : a.block ∉ F) : hcell h' a = some v := by
  have hlt : a.block < h.size := by
    unfold hcell at hc
    split at hc
    · rename_i e; exact (Array.getElem?_eq_some_iff.1 e).1
    · cases hc
  rw [← hc]; unfold hcell; rw [f.old a.block hlt hb]
theorem Fr2.put {h h1 : Heap} {F : List Nat} (f : Fr2 h h1 F) {b : Nat} {l : List Value} (hb : b ∈ F ∨ h.size ≤ b) : Fr2 h (hput h1 b l) F :=
  ⟨by rw [size_hput]; exact f.size, fun x hx hF => by
    rw [hput_other (fun e => by subst e; rcases hb with hb | hb; exact hF hb; omega)]; exact f.old x hx hF⟩
theorem Fr2.new {h h1 : Heap} {F : List Nat} (f : Fr2 h h1 F) {l : List Value} {t : TypeId} : Fr2 h (hnew h1 l t) F :=
  ⟨by rw [size_hnew]; have := f.size; omega, fun x hx hF => by rw [hnew_old (by have := f.size; omega)]; exact f.old x hx hF⟩
/-- Two pieces of a way: what the second may turn belongs to the first's or is new. -/
theorem Fr2.trans {h h1 h2 : Heap} {F G : List Nat} (f : Fr2 h h1 F) (g : Fr2 h1 h2 G) (hG : ∀ b, b ∈ G → b ∈ F ∨ h.size ≤ b) : Fr2 h h2 F :=
  ⟨Nat.le_trans f.size g.size, fun b hb hF => by
    rw [g.old b (by have := f.size; omega) (fun hb' => (hG b hb').elim hF (by omega))]; exact f.old b hb hF⟩
theorem Fr2.mono {h h1 : Heap} {F G : List Nat} (f : Fr2 h h1 F) (hG : ∀ b, b ∈ F → b ∈ G) : Fr2 h h1 G :=
  ⟨f.size, fun b hb hF => f.old b hb fun h => hF (hG b h)⟩

/-! ### Reading instructions -/
def optK {α : Type} : Option α → (α → Prop) → Prop
  | some v, k => k v
  | none, _ => False
theorem optK_some {α : Type} (v : α) (k : α → Prop) : optK (some v) k = k v := rfl
section
variable {P : Program} {h : Heap} {k : Value → Prop}
theorem rd_false {s : Sem Value} (hn : ∀ w : World, w.heap = h → ∀ v, s.run P w ≠ .ok v w) : rd P h s k = False := by
  apply propext
  refine ⟨?_, False.elim⟩
  rintro ⟨v, hv, _⟩
  exact hn { (default : World) with heap := h } rfl v (hv _ rfl)
/-- A type whose variables are of one cell. -/
def scT (P : Program) (t : TypeId) : Bool :=
  match P.underlying t with
  | some (.struct _) => false
  | some (.array _ _) => false
  | some _ => true
  | none => false
theorem run_isAgg_sc {t : TypeId} (hs : scT P t = true) (w : World) : (isAgg t).run P w = .ok false w := by
  unfold scT at hs
  cases hu : P.underlying t with
  | none => rw [hu] at hs; cases hs
  | some d =>
    rw [hu] at hs
    have := run_underlying hu w
    cases d <;> simp_all [isAgg]
theorem Rd_ld {t : TypeId} {a : Addr} {v : Value} (hs : scT P t = true) (hc : hcell h a = some v) : Rd P h (Instr.loadAt t (.pointer (some a))) v := by
  intro w hw
  have hc' : w.cell? a = some v := by rw [cell_heap, hw]; exact hc
  simp [Instr.loadAt, Instr.sureAddr, loadVar, run_isAgg_sc hs, hc']
theorem rd_ld {t : TypeId} {a : Addr} {v : Value} (hc : hcell h a = some v) (hs : scT P t = true) : rd P h (Instr.loadAt t (.pointer (some a))) k = k v := rd_eq (Rd_ld hs hc) k
theorem rd_ldr {t : TypeId} {b o : Nat} {l : List Value} (hr : row h b = some l) (hs : scT P t = true) : rd P h (Instr.loadAt t (.pointer (some ⟨b, o, none⟩))) k = optK l[o]? k := by
  cases hl : l[o]? with
  | some v => exact rd_ld (by rw [hcell_row hr, hl]) hs
  | none =>
    refine rd_false fun w hw v e => ?_
    have hc : w.cell? ⟨b, o, none⟩ = none := by rw [cell_heap, hw, hcell_row hr, hl]
    obtain ⟨c, t', lo, hi, eb, _, _⟩ := row_get hr
    simp [Instr.loadAt, Instr.sureAddr, loadVar, run_isAgg_sc hs, hc, World.farLoad, hw, eb] at e
/-- The cells of a run in memory. -/
def hcells (h : Heap) (b : Nat) : Nat → Nat → Option (List Value)
  | _, 0 => some []
  | o, n + 1 => match hcell h ⟨b, o, none⟩, hcells h b (o + 1) n with
    | some v, some l => some (v :: l)
    | _, _ => none
theorem run_loadCellsFrom {w : World} {b o : Nat} : ∀ {n i : Nat} {acc : Array Value} {l : List Value}, hcells w.heap b (o + i) n = some l → (loadCellsFrom ⟨b, o, none⟩ i n acc).run P w = .ok (acc ++ l.toArray) w := by
  intro n
  induction n with
  | zero => intro i acc l hl; simp [hcells] at hl; subst hl; simp [loadCellsFrom]
  | succ n ih =>
    intro i acc l hl
    simp only [hcells] at hl
    split at hl
    · rename_i v l' h1 h2
      injection hl with hl; subst hl
      have ha : (⟨b, o, none⟩ : Addr).add i = ⟨b, o + i, none⟩ := by
        unfold Addr.add; split
        · rename_i e; subst e; rfl
        · rfl
      have hc : w.cell? ⟨b, o + i, none⟩ = some v := by rw [cell_heap]; exact h1
      simp only [loadCellsFrom, Sem.run_bind, run_load, ha, hc, Result.andThen_ok]
      rw [ih (l := l') (by rw [← h2]; congr 1)]
      simp
    · cases hl
def agN (P : Program) (t : TypeId) : Option Nat :=
  match P.underlying t with
  | some (.struct _) => (P.info? t).map (·.size)
  | some (.array _ _) => (P.info? t).map (·.size)
  | _ => none
theorem run_isAgg_ag {t : TypeId} {n : Nat} (hs : agN P t = some n) (w : World) : (isAgg t).run P w = .ok true w ∧ (sizeOf t).run P w = .ok n w := by
  unfold agN at hs
  cases hu : P.underlying t with
  | none => rw [hu] at hs; cases hs
  | some d =>
    rw [hu] at hs
    have h1 := run_underlying hu w
    cases d <;> simp only [Option.map_eq_some_iff] at hs <;> first | (cases hs; done) | skip
    all_goals
      obtain ⟨i, hi, rfl⟩ := hs
      constructor
      · simp [isAgg, h1]
      · simp [sizeOf, typeInfo, hi]
theorem Rd_lda {t : TypeId} {b o n : Nat} {l : List Value} (hs : agN P t = some n) (hc : hcells h b o n = some l) : Rd P h (Instr.loadAt t (.pointer (some ⟨b, o, none⟩))) (.agg ⟨l⟩) := by
  intro w hw
  subst hw
  obtain ⟨h1, h2⟩ := run_isAgg_ag hs w
  simp only [Instr.loadAt, Instr.sureAddr, loadVar, Sem.run_bind, Sem.run_pure, Result.andThen_ok, h1, h2, if_true, loadCells]
  rw [run_loadCellsFrom (l := l) (by simpa using hc)]
  simp
theorem rd_lda {t : TypeId} {b o n : Nat} {l : List Value} (hs : agN P t = some n) (hc : hcells h b o n = some l) : rd P h (Instr.loadAt t (.pointer (some ⟨b, o, none⟩))) k = k (.agg ⟨l⟩) := rd_eq (Rd_lda hs hc) k
/-- Where a field stands in its struct. -/
def fldOff (P : Program) (s : TypeId) (g : Nat) : Option Nat :=
  match P.underlying s with
  | some (.struct fs) => match fs[g]? with
    | some f => match P.info? f.type with
      | some i => cond (Nat.beq i.size 0) none (some f.offset)
      | none => none
    | none => none
  | _ => none
theorem addr_add (b o n : Nat) : (⟨b, o, none⟩ : Addr).add n = ⟨b, o + n, none⟩ := by
  unfold Addr.add; split
  · rename_i e; subst e; rfl
  · rfl
theorem Rd_fld {s : TypeId} {g n b o : Nat} (hf : fldOff P s g = some n) : Rd P h (Instr.fieldAt s (.pointer (some ⟨b, o, none⟩)) g) (.pointer (some ⟨b, o + n, none⟩)) := by
  intro w hw
  unfold fldOff at hf
  split at hf
  · rename_i fs hu
    split at hf
    · rename_i f hfs
      split at hf
      · rename_i i hi
        cases hz : Nat.beq i.size 0 with
        | true => rw [hz] at hf; cases hf
        | false =>
          rw [hz] at hf
          injection hf with hf
          subst hf
          have hne : ¬ i.size = 0 := fun e => by rw [e] at hz; cases hz
          have h1 := run_underlying hu w
          simp [Instr.fieldAt, Instr.sureAddr, h1, hfs, fieldPlace, sizeOf, typeInfo, hi, hne, addr_add]
      · cases hf
    · cases hf
  · cases hf
theorem rd_fld {s : TypeId} {g n b o : Nat} (hf : fldOff P s g = some n) : rd P h (Instr.fieldAt s (.pointer (some ⟨b, o, none⟩)) g) k = k (.pointer (some ⟨b, o + n, none⟩)) := rd_eq (Rd_fld hf) k
/-- How many cells an element of a slice type has. -/
def elN (P : Program) (t : TypeId) : Option Nat :=
  match P.underlying t with
  | some (.slice e) => (P.info? e).map (·.size)
  | _ => none
theorem elN_at {t : TypeId} {n : Nat} (hs : elN P t = some n) : ∃ e i, P.underlying t = some (.slice e) ∧ P.info? e = some i ∧ i.size = n := by
  unfold elN at hs
  split at hs
  · rename_i e hu
    simp only [Option.map_eq_some_iff] at hs
    obtain ⟨i, hi, hn⟩ := hs
    exact ⟨e, i, hu, hi, hn⟩
  · cases hs
theorem Rd_ix {t : TypeId} {sz b o n c : Nat} {ik : IntKind} {i : Int} (hs : elN P t = some sz) (h0 : 0 ≤ i) (h1 : i < n) : Rd P h (Instr.indexAt t (.slice (some ⟨b, o, none⟩) n c) (.int ik i)) (.pointer (some ⟨b, o + i.toNat * sz, none⟩)) := by
  intro w hw
  obtain ⟨e, inf, hu, hi, rfl⟩ := elN_at hs
  have h2 := run_underlying hu w
  simp [Instr.indexAt, asIntOf, h2, h0, h1, sizeOf, typeInfo, hi, addr_add]
theorem rd_ix {t : TypeId} {sz b o n c : Nat} {ik : IntKind} {i : Int} (hs : elN P t = some sz) (h0 : 0 ≤ i) (h1 : i < n) : rd P h (Instr.indexAt t (.slice (some ⟨b, o, none⟩) n c) (.int ik i)) k = k (.pointer (some ⟨b, o + i.toNat * sz, none⟩)) :=
  rd_eq (Rd_ix hs h0 h1) k
theorem rd_ixn {t : TypeId} {sz b o n c : Nat} {ik : IntKind} {i : Nat} (hs : elN P t = some sz) (h1 : i < n) : rd P h (Instr.indexAt t (.slice (some ⟨b, o, none⟩) n c) (.int ik (i : Int))) k = k (.pointer (some ⟨b, o + i * sz, none⟩)) := by
  rw [rd_ix hs (by omega) (by omega)]; simp
theorem rd_len {t ty : TypeId} {sz : Nat} {a : Option Addr} {n c : Nat} (hs : elN P t = some sz) : rd P h (Builtin.len_ #[t] ty #[.slice a n c]) k = k (.int .i64 n) := by
  obtain ⟨e, inf, hu, hi, rfl⟩ := elN_at hs
  refine rd_eq (fun w hw => ?_) k
  have h2 := run_underlying hu w
  simp [Builtin.len_, h2, goInt]
theorem rd_ext {vs : List Value} {i : Nat} : rd P h (Instr.extract (.tuple ⟨vs⟩) i) k = optK vs[i]? k := by
  cases hv : vs[i]? with
  | some v => exact rd_eq (fun w hw => by simp [Instr.extract, hv]) k
  | none => exact rd_false fun w hw v => by simp [Instr.extract, hv]
/-! numbers -/
def w64 (n : Int) : Int := IntKind.i64.wrap n
theorem w64_in {n : Int} (h0 : -9223372036854775808 ≤ n) (h1 : n ≤ 9223372036854775807) : w64 n = n := by
  unfold w64 IntKind.wrap; simp [IntKind.bits, IntKind.signed]; omega
section
variable {t : TypeId} {x y : Operand} {a b : Int} {kk : IntKind}
theorem rd_bin {op : BinOp} {u v : Value} {r : Value} (hr : ∀ w : World, (binS op t x y u v).run P w = .ok r w) : rd P h (binS op t x y u v) k = k r := rd_eq (fun w _ => hr w) k
theorem rd_add : rd P h (binS .add t x y (.int kk a) (.int kk b)) k = k (.int kk (kk.wrap (a + b))) := rd_bin fun w => by simp [binS, eqGuard, binOp, Op.intArith]
theorem rd_sub : rd P h (binS .sub t x y (.int kk a) (.int kk b)) k = k (.int kk (kk.wrap (a - b))) := rd_bin fun w => by simp [binS, eqGuard, binOp, Op.intArith]
theorem rd_mul : rd P h (binS .mul t x y (.int kk a) (.int kk b)) k = k (.int kk (kk.wrap (a * b))) := rd_bin fun w => by simp [binS, eqGuard, binOp, Op.intArith]
theorem rd_quo (hb : b ≠ 0) : rd P h (binS .quo t x y (.int kk a) (.int kk b)) k = k (.int kk (kk.wrap (a.tdiv b))) := rd_bin fun w => by simp [binS, eqGuard, binOp, Op.intDiv, hb]
theorem rd_rem (hb : b ≠ 0) : rd P h (binS .rem t x y (.int kk a) (.int kk b)) k = k (.int kk (a.tmod b)) := rd_bin fun w => by simp [binS, eqGuard, binOp, Op.intDiv, hb]
theorem rd_lss : rd P h (binS .lss t x y (.int kk a) (.int kk b)) k = k (.bool (decide (a < b))) := rd_bin fun w => by simp [binS, eqGuard, binOp, Op.intCmp]
theorem rd_leq : rd P h (binS .leq t x y (.int kk a) (.int kk b)) k = k (.bool (decide (a ≤ b))) := rd_bin fun w => by simp [binS, eqGuard, binOp, Op.intCmp]
theorem rd_gtr : rd P h (binS .gtr t x y (.int kk a) (.int kk b)) k = k (.bool (decide (a > b))) := rd_bin fun w => by simp [binS, eqGuard, binOp, Op.intCmp]
theorem rd_geq : rd P h (binS .geq t x y (.int kk a) (.int kk b)) k = k (.bool (decide (a ≥ b))) := rd_bin fun w => by simp [binS, eqGuard, binOp, Op.intCmp]
theorem rd_eql : rd P h (binS .eql t x y (.int kk a) (.int kk b)) k = k (.bool (a == b)) := rd_bin fun w => by simp [binS, eqGuard, binOp, Op.intCmp]
theorem rd_neq : rd P h (binS .neq t x y (.int kk a) (.int kk b)) k = k (.bool (a != b)) := rd_bin fun w => by simp [binS, eqGuard, binOp, Op.intCmp]
theorem rd_not {c : Bool} : rd P h (Op.unary .not (.bool c)) k = k (.bool !c) := rd_eq (fun w hw => by simp [Op.unary]) k
theorem rd_neg : rd P h (Op.unary .neg (.int kk a)) k = k (.int kk (kk.wrap (-a))) := rd_eq (fun w hw => by simp [Op.unary, Op.intArith]) k
end
theorem br_bool (c : Bool) (A B : Prop) : br (.bool c) A B = ((c = true → A) ∧ (c = false → B)) := by
  apply propext
  unfold br
  refine ⟨?_, fun h => ⟨c, rfl, h⟩⟩
  rintro ⟨x, hx, h⟩
  injection hx with hx; subst hx; exact h
theorem ex_bool (c : Bool) (p : Bool → Prop) : (∃ x : Bool, Value.bool c = .bool x ∧ p x) = p c := by
  apply propext
  refine ⟨?_, fun h => ⟨c, rfl, h⟩⟩
  rintro ⟨x, hx, h⟩
  injection hx with hx; subst hx; exact h
theorem okNil_ptr (a : Addr) : okNil (.pointer (some a)) = true := rfl
theorem isB_bool (c b : Bool) : isB (.bool c) b = (c == b) := rfl
end

/-! ### Instructions that turn memory -/
/-- A value of one cell. -/
def sc1 : Value → Bool
  | .agg _ => false
  | .tuple _ => false
  | _ => true
theorem sc1_cells {v : Value} (h : sc1 v = true) : v.cells = #[v] := by cases v <;> first | rfl | cases h
theorem sc1_one {v : Value} (h : sc1 v = true) : v.oneCell' = true := by cases v <;> first | rfl | cases h
/-- The type's row of the table: the cells of its zero value, its cells, its bytes. -/
structure TI (P : Program) (t : TypeId) (z : List Value) (n by_ : Nat) : Prop where
  ex : ∃ i zv, P.info? t = some i ∧ i.zero = some zv ∧ zv.cells.toList = z ∧ i.size = n ∧ i.bytes = by_
theorem TI.of {P : Program} {t : TypeId} {z : Value} {l : List Value} {n by_ : Nat} (h : (P.info? t).map (fun i => (i.zero, i.size, i.bytes)) = some (some z, n, by_)) (hl : z.cells.toList = l) : TI P t l n by_ := by
  cases hi : P.info? t with
  | none => rw [hi] at h; cases h
  | some i =>
    rw [hi] at h
    simp only [Option.map_some, Option.some.injEq, Prod.mk.injEq] at h
    exact ⟨i, z, hi, h.1, hl, h.2.1, h.2.2⟩
/-- The slice type's element type. -/
def SlT (P : Program) (t e : TypeId) : Prop := P.underlying t = some (.slice e)
theorem modify_congr {α : Type} {a : Array α} {i : Nat} {f g : α → α} (h : ∀ x, a[i]? = some x → f x = g x) : a.modify i f = a.modify i g := by
  apply Array.ext_getElem?
  intro j
  simp only [Array.getElem?_modify]
  split
  · rename_i e
    subst e
    cases hx : a[i]? with
    | none => rfl
    | some x => simp [h x hx]
  · rfl
theorem heap_setCell {w : World} {b o : Nat} {l : List Value} {v : Value} (hr : row w.heap b = some l) : (w.setCell ⟨b, o, none⟩ v).heap = hput w.heap b (l.set o v) := by
  obtain ⟨c, t, lo, hi, e, hl, rfl⟩ := row_get hr
  unfold World.setCell hput
  dsimp only
  refine modify_congr fun x hx => ?_
  rw [e] at hx
  injection hx with hx
  subst hx
  simp
  apply Array.ext'
  simp
section
variable {P : Program} {h : Heap}
theorem run_store_row {w : World} {b o : Nat} {l : List Value} {v : Value} (hr : row w.heap b = some l) (ho : o < l.length) (hv : sc1 v = true) : (store ⟨b, o, none⟩ v).run P w = .ok () (w.setCell ⟨b, o, none⟩ v) := by
  rw [run_store _ _ _ _ _ (sc1_one hv)]
  have hc : w.cell? ⟨b, o, none⟩ = some l[o] := by rw [cell_heap, hcell_row hr]; simp [ho]
  rw [hc]
  simp [hfree_row hr w rfl o]
/-- The cells from a place on. -/
def lput (l : List Value) (o : Nat) (vs : List Value) : List Value := l.take o ++ vs ++ l.drop (o + vs.length)
theorem lput_cons (l : List Value) (o : Nat) (v : Value) (vs : List Value) (h : o + (vs.length + 1) ≤ l.length) : lput (l.set o v) (o + 1) vs = lput l o (v :: vs) := by
  apply List.ext_getElem?
  intro i
  simp only [lput, List.getElem?_append, List.length_append, List.length_take, List.length_set, List.length_cons, List.getElem?_take, List.getElem?_drop, List.getElem?_set]
  have e1 : min (o + 1) l.length = o + 1 := by omega
  have e2 : min o l.length = o := by omega
  rw [e1, e2]
  by_cases h1 : i < o
  · simp [h1, show i < o + 1 + vs.length by omega, show i < o + 1 by omega, show o ≠ i by omega, show i < o + (vs.length + 1) by omega]
  · by_cases h2 : i = o
    · subst h2
      simp [show i < i + 1 + vs.length by omega, show i < l.length by omega]
    · by_cases h3 : i < o + 1 + vs.length
      · obtain ⟨j, rfl⟩ : ∃ j, i = o + 1 + j := ⟨i - (o + 1), by omega⟩
        have e3 : o + 1 + j - o = j + 1 := by omega
        simp [h3, show ¬ (o + 1 + j < o + 1) by omega, show ¬ (o + 1 + j < o) by omega, show o + 1 + j < o + (vs.length + 1) by omega, e3]
      · have e4 : o + 1 + vs.length + (i - (o + 1 + vs.length)) = i := by omega
        have e5 : o + (vs.length + 1) + (i - (o + (vs.length + 1))) = i := by omega
        simp only [h3, show ¬ (i < o + (vs.length + 1)) by omega, if_false, e4, e5]
        simp [show o ≠ i by omega]
theorem lput_nil (l : List Value) (o : Nat) : lput l o [] = l := by simp [lput]
theorem length_lput {l : List Value} {o : Nat} {vs : List Value} (h : o + vs.length ≤ l.length) : (lput l o vs).length = l.length := by simp [lput]; omega
theorem run_storeCells {b o : Nat} : ∀ (vs : List Value) (i : Nat) (l : List Value) (w : World), row w.heap b = some l → o + i + vs.length ≤ l.length → (∀ v ∈ vs, sc1 v = true) →
    ∃ w', (storeCells ⟨b, o, none⟩ vs i).run P w = .ok () w' ∧ Sm w w' ∧ w'.heap = hput w.heap b (lput l (o + i) vs)
  | [], i, l, w, hr, _, _ => ⟨w, rfl, Sm.refl w, by
      rw [lput_nil]
      obtain ⟨c, t, lo, hi, e, hl, rfl⟩ := row_get hr
      apply Array.ext_getElem?
      intro j
      simp only [hput, Array.getElem?_modify]
      split
      · rename_i ej; subst ej; rw [e]; rfl
      · rfl⟩
  | v :: vs, i, l, w, hr, hlen, hv => by
    simp only [List.length_cons] at hlen
    have hs := run_store_row (P := P) (o := o + i) (v := v) hr (by omega) (hv v (by simp))
    have hr' : row (w.setCell ⟨b, o + i, none⟩ v).heap b = some (l.set (o + i) v) := by rw [heap_setCell hr]; exact hput_same hr
    obtain ⟨w', h1, h2, h3⟩ := run_storeCells (o := o) vs (i + 1) (l.set (o + i) v) (w.setCell ⟨b, o + i, none⟩ v) hr' (by rw [List.length_set]; omega) (fun u hu => hv u (by simp [hu]))
    refine ⟨w', ?_, Sm.trans (b := w.setCell ⟨b, o + i, none⟩ v) ⟨rfl, rfl, rfl, by first | exact Nat.le_refl _ | exact Nat.le_succ _⟩ h2, ?_⟩
    · simp only [storeCells, Sem.run_bind, addr_add, hs, Result.andThen_ok, h1]
    · rw [h3, heap_setCell hr, show o + (i + 1) = o + i + 1 by omega, lput_cons _ _ _ _ (by omega)]
      apply Array.ext_getElem?
      intro j
      simp only [hput, Array.getElem?_modify]
      split
      · rename_i ej
        subst ej
        cases w.heap[b]? with
        | none => rfl
        | some x => cases x <;> rfl
      · rfl
theorem sem_st {t : TypeId} {b o n by_ : Nat} {z l : List Value} {v : Value} {k : Unit → Heap → Prop} (ht : TI P t z n by_) (hr : row h b = some l) (hn : v.cells.size = n) (ho : o + n ≤ l.length) (hv : ∀ x ∈ v.cells.toList, sc1 x = true)
    (hk : k () (hput h b (lput l o v.cells.toList))) : sem P (Instr.storeAt t (.pointer (some ⟨b, o, none⟩)) v) h k := by
  intro w hw
  subst hw
  obtain ⟨i, zv, hi, _, _, hsz, _⟩ := ht.ex
  obtain ⟨w', h1, h2, h3⟩ := run_storeCells (P := P) (o := o) v.cells.toList 0 l w hr (by simp; omega) hv
  refine ⟨(), w', ?_, h2, ?_⟩
  · simp only [Instr.storeAt, Instr.sureAddr, storeVar, Sem.run_bind, Sem.run_pure, Result.andThen_ok, sizeOf, typeInfo, run_program, hi, hsz, hn]
    simpa using h1
  · rw [h3]; exact hk
theorem lput_one (l : List Value) (o : Nat) (v : Value) (h : o < l.length) : lput l o [v] = l.set o v := by
  rw [← lput_cons _ _ _ _ (by simp only [List.length_nil]; omega), lput_nil]
/-- A store of one cell. -/
theorem sem_st1 {t : TypeId} {b o by_ : Nat} {z l : List Value} {v : Value} {k : Unit → Heap → Prop} (ht : TI P t z 1 by_) (hr : row h b = some l) (ho : o < l.length) (hv : sc1 v = true)
    (hk : k () (hput h b (l.set o v))) : sem P (Instr.storeAt t (.pointer (some ⟨b, o, none⟩)) v) h k := by
  refine sem_st ht hr (by rw [sc1_cells hv]; rfl) (by omega) (by rw [sc1_cells hv]; simpa using hv) ?_
  rw [sc1_cells hv]
  show k () (hput h b (lput l o [v]))
  rw [lput_one l o v ho]
  exact hk
theorem sem_alloc {t : TypeId} {n by_ : Nat} {z : List Value} {k : Value → Heap → Prop} (ht : TI P t z n by_) (hk : k (.pointer (some ⟨h.size, 0, none⟩)) (hnew h z t)) : sem P (Instr.alloc t true (.tuple #[])) h k := by
  intro w hw
  subst hw
  obtain ⟨i, zv, hi, hz, hzl, _, _⟩ := ht.ex
  refine ⟨.pointer (some ⟨w.heap.size, 0, none⟩), { w with heap := w.heap.push (.cells zv.cells t) }, ?_, ⟨rfl, rfl, rfl, by first | exact Nat.le_refl _ | exact Nat.le_succ _⟩, ?_⟩
  · simp [Instr.alloc, zeroValue, typeInfo, hi, hz, newVar, newRow]
  · have : (⟨z⟩ : Array Value) = zv.cells := by rw [← hzl]
    show k _ (w.heap.push _)
    rw [← this]; exact hk
theorem sem_box {t : TypeId} {v : Value} {k : Value → Heap → Prop} (hk : k (.pointer (some ⟨h.size, 0, none⟩)) (hnew h v.cells.toList t)) : sem P (Instr.box t v) h k := by
  intro w hw
  subst hw
  refine ⟨.pointer (some ⟨w.heap.size, 0, none⟩), { w with heap := w.heap.push (.cells v.cells t) }, ?_, ⟨rfl, rfl, rfl, by first | exact Nat.le_refl _ | exact Nat.le_succ _⟩, hk⟩
  simp [Instr.box, newVar, newRow]
/-- A literal of one element. -/
theorem sem_bs1 {t e : TypeId} {n by_ : Nat} {z : List Value} {x : Value} {k : Value → Heap → Prop} (hs : SlT P t e) (ht : TI P e z n by_) (hx : x.cells.size = n) (hn0 : 0 < n) (hn : n ≤ 1000)
    (hk : k (.slice (some ⟨h.size, 0, none⟩) 1 1) (hnew h x.cells.toList e)) : sem P (Instr.buildSlice t 1 #[(0, x)]) h k := by
  intro w hw
  subst hw
  obtain ⟨i, zv, hi, hz, hzl, hsz, _⟩ := ht.ex
  refine ⟨.slice (some ⟨w.heap.size, 0, none⟩) 1 1, { w with heap := w.heap.push (.cells x.cells e) }, ?_, ⟨rfl, rfl, rfl, by first | exact Nat.le_refl _ | exact Nat.le_succ _⟩, hk⟩
  have h1 := run_underlying hs w
  have hf : ∀ c0 : Array Value, c0.size = n → Instr.fill (fun i => some (i * n, n)) c0 [(0, x)] = some x.cells := by
    intro c0 hc0
    simp only [Instr.fill, Nat.zero_mul, Nat.zero_add, hx, hc0]
    simp
    apply Array.ext_getElem?
    intro j
    have key : ∀ (l : List (Value × Nat)) (c : Array Value), (l.foldl (fun cs (p : Value × Nat) => cs.setIfInBounds p.2 p.1) c).size = c.size := by
      intro l; induction l with
      | nil => intro c; rfl
      | cons p l ih => intro c; simp [ih]
    have key2 : ∀ (m s : Nat) (l : List Value) (c : Array Value), l.length = m → s + m ≤ c.size → ∀ j, ((l.zipIdx s).foldl (fun cs (p : Value × Nat) => cs.setIfInBounds p.2 p.1) c)[j]? = if s ≤ j ∧ j < s + m then l[j - s]? else c[j]? := by
      intro m
      induction m with
      | zero => intro s l c hl _ j; cases l with | nil => simp; omega | cons _ _ => simp at hl
      | succ m ih =>
        intro s l c hl hc j
        cases l with
        | nil => simp at hl
        | cons v l =>
          simp only [List.zipIdx_cons, List.foldl_cons]
          rw [ih (s + 1) l _ (by simpa using hl) (by simp; omega) j]
          by_cases e : j = s
          · subst e
            rw [if_neg (by omega), if_pos (by omega)]
            simp [show j < c.size by omega]
          · by_cases e2 : s + 1 ≤ j ∧ j < s + 1 + m
            · rw [if_pos e2, if_pos (by omega)]
              rw [show j - s = (j - (s + 1)) + 1 by omega]; simp
            · rw [if_neg e2, if_neg (by omega)]
              simp [Array.getElem?_setIfInBounds_ne (Ne.symm e)]
    have h2 := key2 n 0 x.cells.toList c0 (by simpa using hx) (by omega) j
    have hzs : x.cells.size = x.cells.zipIdx.size := by simp
    rw [hzs, ← Array.foldl_toList, Array.toList_zipIdx]
    refine h2.trans ?_
    by_cases hj : j < n
    · rw [if_pos (by omega)]; simp
    · rw [if_neg (by omega), Array.getElem?_eq_none (by omega), Array.getElem?_eq_none (by omega)]
  have hne : ¬ (n = 0) := by omega
  have hlt : ¬ (16777216 < n) := by omega
  simp [Instr.buildSlice, h1, sizeOf, typeInfo, hi, hsz, zeroValue, hz, hne, hlt, newRow]
  rw [hf _ (by simp)]
  simp
end

/-! ### Slices of our own -/
/-- The value is a slice whose elements' cells are xs; what memory it has is the block in bs, and nobody else's. -/
def Own (h : Heap) (sz : Nat) (v : Value) (bs : List Nat) (xs : List Value) : Prop :=
  (v = .slice none 0 0 ∧ xs = [] ∧ bs = []) ∨
  ∃ b n c rest, v = .slice (some ⟨b, 0, none⟩) n c ∧ bs = [b] ∧ xs.length = n * sz ∧ n ≤ c ∧ row h b = some (xs ++ rest) ∧ rest.length = (c - n) * sz
/-- A slice whose cells can be read. -/
def Src (h : Heap) (sz : Nat) (x : Value) (ys : List Value) : Prop :=
  ∃ a m c, x = .slice a m c ∧ ys.length = m * sz ∧ (m = 0 ∨ ∃ b o, a = some ⟨b, o, none⟩ ∧ hcells h b o (m * sz) = some ys)
theorem Own.nil (h : Heap) (sz : Nat) : Own h sz (.slice none 0 0) [] [] := .inl ⟨rfl, rfl, rfl⟩
theorem Own.lt {h : Heap} {sz : Nat} {v : Value} {bs : List Nat} {xs : List Value} (ho : Own h sz v bs xs) : ∀ b ∈ bs, b < h.size := by
  intro b hb
  rcases ho with ⟨_, _, rfl⟩ | ⟨b', n, c, rest, _, rfl, _, _, hr, _⟩
  · cases hb
  · simp at hb; subst hb; exact row_lt hr
theorem Own.frame {h h' : Heap} {sz : Nat} {v : Value} {bs F : List Nat} {xs : List Value} (ho : Own h sz v bs xs) (f : Fr2 h h' F) (hd : ∀ b ∈ bs, b ∉ F) : Own h' sz v bs xs := by
  rcases ho with h | ⟨b, n, c, rest, hv, rfl, hl, hn, hr, hrl⟩
  · exact .inl h
  · exact .inr ⟨b, n, c, rest, hv, rfl, hl, hn, f.row hr (hd b (by simp)), hrl⟩
theorem hcells_row {h : Heap} {b : Nat} {l : List Value} (hr : row h b = some l) : ∀ (n o : Nat), o + n ≤ l.length → hcells h b o n = some ((l.drop o).take n)
  | 0, o, _ => by simp [hcells]
  | n + 1, o, hl => by
    simp only [hcells, hcell_row hr, hcells_row hr n (o + 1) (by omega)]
    have : o < l.length := by omega
    rw [List.getElem?_eq_getElem this]
    dsimp only
    rw [List.drop_eq_getElem_cons this, List.take_succ_cons]
theorem hcells_length {h : Heap} {b : Nat} : ∀ {n o : Nat} {l : List Value}, hcells h b o n = some l → l.length = n
  | 0, o, l, hl => by simp [hcells] at hl; subst hl; rfl
  | n + 1, o, l, hl => by
    simp only [hcells] at hl
    split at hl
    · rename_i v l' h1 h2; injection hl with hl; subst hl; simp [hcells_length h2]
    · cases hl
theorem hcells_get {h : Heap} {b : Nat} : ∀ {n o : Nat} {l : List Value}, hcells h b o n = some l → ∀ i, i < n → hcell h ⟨b, o + i, none⟩ = l[i]?
  | 0, o, l, hl, i, hi => by omega
  | n + 1, o, l, hl, i, hi => by
    simp only [hcells] at hl
    split at hl
    · rename_i v l' h1 h2
      injection hl with hl; subst hl
      cases i with
      | zero => simpa using h1
      | succ i => simpa [Nat.add_assoc, Nat.add_comm 1 i] using hcells_get h2 i (by omega)
    · cases hl
theorem Own.src {h : Heap} {sz : Nat} {v : Value} {bs : List Nat} {xs : List Value} (ho : Own h sz v bs xs) : Src h sz v xs := by
  rcases ho with ⟨rfl, rfl, _⟩ | ⟨b, n, c, rest, rfl, _, hl, hn, hr, hrl⟩
  · exact ⟨none, 0, 0, rfl, by simp, .inl rfl⟩
  · refine ⟨some ⟨b, 0, none⟩, n, c, rfl, hl, .inr ⟨b, 0, rfl, ?_⟩⟩
    rw [hcells_row hr _ _ (by simp; omega), ← hl]
    simp
theorem own_new {h : Heap} {sz : Nat} {xs : List Value} {n : Nat} {t : TypeId} (hl : xs.length = n * sz) : Own (hnew h xs t) sz (.slice (some ⟨h.size, 0, none⟩) n n) [h.size] xs :=
  .inr ⟨h.size, n, n, [], rfl, rfl, hl, Nat.le_refl _, by rw [row_hnew_new]; simp, by simp⟩
section
variable {P : Program} {h : Heap}
theorem run_first {w : World} {sz m c b o : Nat} {ys : List Value} (hy : hcells w.heap b o (m * sz) = some ys) : (Builtin.firstCells sz m (.slice (some ⟨b, o, none⟩) m c)).run P w = .ok ⟨ys⟩ w := by
  simp only [Builtin.firstCells, loadCells]
  rw [run_loadCellsFrom (l := ys) (by simpa using hy)]
  simp
theorem zero_len (z : Array Value) (n : Nat) : (Builtin.zeroCells z n).size = n * z.size := by simp [Builtin.zeroCells]
theorem sem_append {t e ty sz by_ : Nat} {z xs ys : List Value} {s x : Value} {bs : List Nat} {k : Value → Heap → Prop} (hs : SlT P t e) (ht : TI P e z sz by_) (hz : z.length = sz) (ho : Own h sz s bs xs) (hx : Src h sz x ys)
    (hsc : ∀ y ∈ ys, sc1 y = true) (hsz : 0 < sz) (hby : (xs.length + ys.length) * by_ ≤ 140737488355328 * sz) (h63 : xs.length + ys.length ≤ 4611686018427387904)
    (hk : ∀ v' h' bs', Own h' sz v' bs' (xs ++ ys) → Fr2 h h' bs → (∀ b ∈ bs', b ∈ bs ∨ h.size ≤ b) → k v' h') : sem P (Builtin.append_ #[t, t] ty #[s, x]) h k := by
  intro w hw
  subst hw
  obtain ⟨i, zv, hi, hzv, hzl, hisz, hiby⟩ := ht.ex
  obtain ⟨xa, m, cx, rfl, hyl, hxa⟩ := hx
  have hzs : zv.cells.size = sz := by rw [← hz, ← hzl]; simp
  -- a new array
  have grown : ∀ (n cc : Nat), xs.length = n * sz → bs = bs → ∀ w' : World, w'.heap = (w.drew.alloc (.cells (⟨xs⟩ ++ ⟨ys⟩ ++ Builtin.zeroCells zv.cells (cc - (n + m))) e)).heap → n + m ≤ cc →
      Own w'.heap sz (.slice (some ⟨w.heap.size, 0, none⟩) (n + m) cc) [w.heap.size] (xs ++ ys) ∧ Fr2 w.heap w'.heap bs := by
    intro n cc hxl _ w' hw' hcc
    have e1 : w'.heap = hnew w.heap (xs ++ ys ++ (Builtin.zeroCells zv.cells (cc - (n + m))).toList) e := by
      rw [hw']
      show w.heap.push _ = w.heap.push _
      congr 2
      apply Array.ext'
      simp
    rw [e1]
    refine ⟨.inr ⟨w.heap.size, n + m, cc, _, rfl, rfl, by simp [hxl, hyl, Nat.add_mul], hcc, row_hnew_new, ?_⟩, (Fr2.refl _ _).new⟩
    have := zero_len zv.cells (cc - (n + m))
    rw [hzs] at this
    simpa using this
  have hcap : ∀ n cap : Nat, n + m ≤ grownCap w (n + m) cap e := fun n cap => by simp [grownCap, Question.cut]
  have bnd : ∀ n : Nat, xs.length = n * sz → (n + m) * by_ ≤ 140737488355328 := fun n hxl => by
    rw [hxl, hyl, ← Nat.add_mul, Nat.mul_right_comm] at hby
    exact Nat.le_of_mul_le_mul_right hby hsz
  have bnd63 : ∀ n : Nat, xs.length = n * sz → n + m ≤ 4611686018427387904 := fun n hxl => by
    have : (n + m) * 1 ≤ (n + m) * sz := Nat.mul_le_mul_left _ hsz
    rw [hxl, hyl, ← Nat.add_mul] at h63
    omega
  rcases ho with ⟨rfl, rfl, rfl⟩ | ⟨b, n, c, rest, rfl, rfl, hxl, hnc, hr, hrl⟩
  · -- nil
    rcases Nat.eq_zero_or_pos m with rfl | hm
    · have hy0 : ys = [] := List.length_eq_zero_iff.1 (by simpa using hyl)
      subst hy0
      refine ⟨.slice none 0 0, w, ?_, Sm.refl w, hk _ _ [] (by simpa using Own.nil _ _) (Fr2.refl _ _) (by simp)⟩
      have hf : (Builtin.firstCells i.size 0 (.slice xa 0 cx)).run P w = .ok #[] w := by
        cases xa <;> simp [Builtin.firstCells, loadCells, loadCellsFrom]
      simp [Builtin.append_, run_underlying hs, sizeOf, typeInfo, hi, Builtin.lenOf, hf]
    · obtain ⟨bx, ox, rfl, hy⟩ := hxa.resolve_left (by omega)
      have hb := bnd 0 (by simp)
      rw [Nat.zero_add] at hb
      have h6 := bnd63 0 (by simp)
      have hr := run_append_nil (P := P) w t ty e i zv hs hi hzv ⟨bx, ox, none⟩ m cx ys (by rw [hisz]; exact hyl) (fun j v hj => by
        rw [addr_add, cell_heap, hcells_get hy j (by rw [← hyl]; exact (List.getElem?_eq_some_iff.1 hj).1)]; exact hj) hm (by omega) (by rw [hiby]; omega)
      obtain ⟨g1, g2⟩ := grown 0 (grownCap w m 0 e) (by simp) rfl (w.drew.alloc (.cells (ys.toArray ++ Builtin.zeroCells zv.cells (grownCap w m 0 e - m)) e)) (by simp) (by simpa using hcap 0 0)
      refine ⟨_, _, hr, ⟨rfl, rfl, rfl, by first | exact Nat.le_refl _ | exact Nat.le_succ _⟩, hk _ _ [w.heap.size] (by simpa using g1) g2 (by simp)⟩
  · have hb := bnd n hxl
    have h6 := bnd63 n hxl
    by_cases hroom : n + m ≤ c
    · -- in place
      have hf : (Builtin.firstCells i.size m (.slice xa m cx)).run P w = .ok ⟨ys⟩ w := by
        rcases Nat.eq_zero_or_pos m with rfl | hm
        · have hy0 : ys = [] := List.length_eq_zero_iff.1 (by simpa using hyl)
          subst hy0
          cases xa <;> simp [Builtin.firstCells, loadCells, loadCellsFrom]
        · obtain ⟨bx, ox, rfl, hy⟩ := hxa.resolve_left (by omega)
          rw [hisz]; exact run_first hy
      have hlen : (xs ++ rest).length = c * sz := by
        rw [List.length_append, hxl, hrl, ← Nat.add_mul]; congr 1; omega
      have hms : n * sz + m * sz ≤ c * sz := by rw [← Nat.add_mul]; exact Nat.mul_le_mul_right _ hroom
      obtain ⟨w', h1, h2, h3⟩ := run_storeCells (P := P) (o := n * sz) ys 0 (xs ++ rest) w hr (by rw [hlen, hyl]; simpa using hms) hsc
      refine ⟨.slice (some ⟨b, 0, none⟩) (n + m) c, w', ?_, h2, hk _ _ [b] (.inr ⟨b, n + m, c, rest.drop ys.length, rfl, rfl, by simp [hxl, hyl, Nat.add_mul], hroom, ?_, ?_⟩) ?_ (by simp)⟩
      · rw [hisz] at hf
        simp [Builtin.append_, run_underlying hs, sizeOf, typeInfo, hi, Builtin.lenOf, hroom, hf, addr_add, hisz, h1]
      · rw [h3, hput_same hr]
        simp only [lput, Nat.add_zero, ← hxl]
        simp [List.append_assoc]
      · rw [List.length_drop, hrl, hyl, ← Nat.sub_mul]; congr 1; omega
      · rw [h3]; exact (Fr2.refl _ _).put (.inl (by simp))
    · have hm : 0 < m := by omega
      obtain ⟨bx, ox, rfl, hy⟩ := hxa.resolve_left (by omega)
      have hr' := run_append_grow (P := P) w t ty e i zv hs hi hzv ⟨b, 0, none⟩ n c xs (by rw [hisz]; exact hxl) (fun j v hj => by
          have hj' : j < xs.length := (List.getElem?_eq_some_iff.1 hj).1
          rw [addr_add, cell_heap, hcell_row hr, Nat.zero_add, List.getElem?_append_left hj']; exact hj) ⟨bx, ox, none⟩ m cx ys (by rw [hisz]; exact hyl) (fun j v hj => by
        rw [addr_add, cell_heap, hcells_get hy j (by rw [← hyl]; exact (List.getElem?_eq_some_iff.1 hj).1)]; exact hj) (by omega) (by omega) (by rw [hiby]; exact growslice_fits (by omega) (by omega))
      obtain ⟨g1, g2⟩ := grown n (grownCap w (n + m) c e) hxl rfl (w.drew.alloc (.cells (xs.toArray ++ ys.toArray ++ Builtin.zeroCells zv.cells (grownCap w (n + m) c e - (n + m))) e)) (by simp) (hcap n c)
      exact ⟨_, _, hr', ⟨rfl, rfl, rfl, by first | exact Nat.le_refl _ | exact Nat.le_succ _⟩, hk _ _ [w.heap.size] g1 g2 (by simp)⟩
/-- 'make([]T, l, c)': T's zero value over and over. -/
theorem sem_make {t e sz by_ : Nat} {z : List Value} {kl kc : IntKind} {l c : Nat} {k : Value → Heap → Prop} (hs : SlT P t e) (ht : TI P e z sz by_) (hz : z.length = sz) (hlc : l ≤ c) (hby : by_ * c ≤ 281474976710656) (h63 : c ≤ 4611686018427387904)
    (hk : ∀ cells : List Value, cells.length = c * sz → (∀ j, j < c * sz → cells[j]? = z[j % sz]?) → k (.slice (some ⟨h.size, 0, none⟩) l c) (hnew h cells e)) : sem P (Instr.makeSlice t (.int kl (l : Int)) (.int kc (c : Int))) h k := by
  intro w hw
  subst hw
  obtain ⟨i, zv, hi, hzv, hzl, hisz, hiby⟩ := ht.ex
  have hb : (i.bytes : Int) * (c : Int) ≤ 281474976710656 := by
    rw [hiby]
    have : ((by_ * c : Nat) : Int) ≤ 281474976710656 := by omega
    rwa [Int.natCast_mul] at this
  have hr := run_make (P := P) w t e i zv hs hi hzv kl kc l c (by omega) (by omega) hb (by omega)
  simp only [Int.toNat_natCast] at hr
  refine ⟨_, _, hr, ⟨rfl, rfl, rfl, by first | exact Nat.le_refl _ | exact Nat.le_succ _⟩, ?_⟩
  have e1 : (w.alloc (.cells (madeCells zv.cells (c * i.size)) e)).heap = hnew w.heap (madeCells zv.cells (c * i.size)).toList e := rfl
  rw [e1]
  refine hk _ (by simp [size_madeCells, hisz]) fun j hj => ?_
  have hzs : zv.cells.size = sz := by rw [← hz, ← hzl]; simp
  have hlt : j % sz < sz := Nat.mod_lt _ (by rcases Nat.eq_zero_or_pos sz with rfl | h; simp at hj; exact h)
  rw [← hzl]
  simp only [madeCells, Array.getElem?_toList, hisz, Array.getElem?_map, hzs]
  rw [Array.getElem?_range]
  simp [hj]
  rw [Array.getElem!_eq_getD, Array.getD_eq_getD_getElem?]
  simp [hzs, hlt]
/-- 's[:n]'. -/
theorem rd_sl_hi {t sz : Nat} {a : Option Addr} {n c : Nat} {ik : IntKind} {i : Nat} {k : Value → Prop} (hs : elN P t = some sz) (hi : i ≤ c) (ha : a = none ∨ ∃ b o, a = some ⟨b, o, none⟩) :
    rd P h (Instr.sliceAt t (.slice a n c) none (some (.int ik (i : Int))) none) k = k (.slice a i c) := by
  obtain ⟨e, inf, hu, hinf, rfl⟩ := elN_at hs
  refine rd_eq (fun w hw => ?_) k
  have h2 := run_underlying hu w
  rcases ha with rfl | ⟨b, o, rfl⟩ <;>
    simp [Instr.sliceAt, Instr.slice, Instr.sliceBounds, Instr.sliceBound, asIntOf, h2, hi, sizeOf, typeInfo, hinf, addr_add]
/-- 's[lo:]'. -/
theorem rd_sl_lo {t sz : Nat} {b o n c : Nat} {ik : IntKind} {i : Nat} {k : Value → Prop} (hs : elN P t = some sz) (hi : i ≤ n) :
    rd P h (Instr.sliceAt t (.slice (some ⟨b, o, none⟩) n c) (some (.int ik (i : Int))) none none) k = k (.slice (some ⟨b, if c = i then o else o + i * sz, none⟩) (n - i) (c - i)) := by
  obtain ⟨e, inf, hu, hinf, rfl⟩ := elN_at hs
  refine rd_eq (fun w hw => ?_) k
  have h2 := run_underlying hu w
  by_cases hc : c = i <;>
    simp [Instr.sliceAt, Instr.slice, Instr.sliceBounds, Instr.sliceBound, asIntOf, h2, hi, sizeOf, typeInfo, hinf, addr_add, hc]
end
end Go.Proofs.Ytihbhklcnbdijaa
