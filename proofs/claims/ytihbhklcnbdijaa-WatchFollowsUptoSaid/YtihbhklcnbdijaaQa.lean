/- The reading laws that look at no memory, for regions in any order. -/
import Derived.Test.YtihbhklcnbdijaaMore
set_option linter.unusedVariables false
namespace Go.Proofs.Ytihbhklcnbdijaa
open Go
section
variable {P : Program} {k : Value → Prop}
theorem qa_fld {s : TypeId} {g n b o : Nat} (hf : fldOff P s g = some n) : qa P (Instr.fieldAt s (.pointer (some ⟨b, o, none⟩)) g) k = k (.pointer (some ⟨b, o + n, none⟩)) := qa_eq (fun h k => rd_fld hf) k
theorem qa_ix {t : TypeId} {sz b o n c : Nat} {ik : IntKind} {i : Int} (hs : elN P t = some sz) (h0 : 0 ≤ i) (h1 : i < n) : qa P (Instr.indexAt t (.slice (some ⟨b, o, none⟩) n c) (.int ik i)) k = k (.pointer (some ⟨b, o + i.toNat * sz, none⟩)) := qa_eq (fun h k => rd_ix hs h0 h1) k
theorem qa_ixn {t : TypeId} {sz b o n c : Nat} {ik : IntKind} {i : Nat} (hs : elN P t = some sz) (h1 : i < n) : qa P (Instr.indexAt t (.slice (some ⟨b, o, none⟩) n c) (.int ik (i : Int))) k = k (.pointer (some ⟨b, o + i * sz, none⟩)) := qa_eq (fun h k => rd_ixn hs h1) k
theorem qa_len {t ty : TypeId} {sz : Nat} {a : Option Addr} {n c : Nat} (hs : elN P t = some sz) : qa P (Builtin.len_ #[t] ty #[.slice a n c]) k = k (.int .i64 n) := qa_eq (fun h k => rd_len hs) k
theorem qa_add {t : TypeId} {x y : Operand} {a b : Int} {kk : IntKind} : qa P (binS .add t x y (.int kk a) (.int kk b)) k = k (.int kk (kk.wrap (a + b))) := qa_eq (fun h k => rd_add) k
theorem qa_sub {t : TypeId} {x y : Operand} {a b : Int} {kk : IntKind} : qa P (binS .sub t x y (.int kk a) (.int kk b)) k = k (.int kk (kk.wrap (a - b))) := qa_eq (fun h k => rd_sub) k
theorem qa_mul {t : TypeId} {x y : Operand} {a b : Int} {kk : IntKind} : qa P (binS .mul t x y (.int kk a) (.int kk b)) k = k (.int kk (kk.wrap (a * b))) := qa_eq (fun h k => rd_mul) k
theorem qa_quo {t : TypeId} {x y : Operand} {a b : Int} {kk : IntKind} (hb : b ≠ 0) : qa P (binS .quo t x y (.int kk a) (.int kk b)) k = k (.int kk (kk.wrap (a.tdiv b))) := qa_eq (fun h k => rd_quo hb) k
theorem qa_rem {t : TypeId} {x y : Operand} {a b : Int} {kk : IntKind} (hb : b ≠ 0) : qa P (binS .rem t x y (.int kk a) (.int kk b)) k = k (.int kk (a.tmod b)) := qa_eq (fun h k => rd_rem hb) k
theorem qa_lss {t : TypeId} {x y : Operand} {a b : Int} {kk : IntKind} : qa P (binS .lss t x y (.int kk a) (.int kk b)) k = k (.bool (decide (a < b))) := qa_eq (fun h k => rd_lss) k
theorem qa_leq {t : TypeId} {x y : Operand} {a b : Int} {kk : IntKind} : qa P (binS .leq t x y (.int kk a) (.int kk b)) k = k (.bool (decide (a ≤ b))) := qa_eq (fun h k => rd_leq) k
theorem qa_gtr {t : TypeId} {x y : Operand} {a b : Int} {kk : IntKind} : qa P (binS .gtr t x y (.int kk a) (.int kk b)) k = k (.bool (decide (a > b))) := qa_eq (fun h k => rd_gtr) k
theorem qa_geq {t : TypeId} {x y : Operand} {a b : Int} {kk : IntKind} : qa P (binS .geq t x y (.int kk a) (.int kk b)) k = k (.bool (decide (a ≥ b))) := qa_eq (fun h k => rd_geq) k
theorem qa_eql {t : TypeId} {x y : Operand} {a b : Int} {kk : IntKind} : qa P (binS .eql t x y (.int kk a) (.int kk b)) k = k (.bool (a == b)) := qa_eq (fun h k => rd_eql) k
theorem qa_neq {t : TypeId} {x y : Operand} {a b : Int} {kk : IntKind} : qa P (binS .neq t x y (.int kk a) (.int kk b)) k = k (.bool (a != b)) := qa_eq (fun h k => rd_neq) k
theorem qa_not {c : Bool} : qa P (Op.unary .not (.bool c)) k = k (.bool !c) := qa_eq (fun h k => rd_not) k
theorem qa_neg {a : Int} {kk : IntKind} : qa P (Op.unary .neg (.int kk a)) k = k (.int kk (kk.wrap (-a))) := qa_eq (fun h k => rd_neg) k
theorem qa_bld {t : TypeId} {zc : Array Value} {ps : Array (Nat × Nat)} {parts : Array (Nat × Value)} {cells : Array Value} (hb : bldInfo P t = some (zc, ps)) (hf : Instr.fill (ps[·]?) zc parts.toList = some cells) : qa P (Instr.build t parts) k = k (.agg cells) := qa_eq (fun h k => rd_bld hb hf) k
theorem qa_blda {t : TypeId} {n sz : Nat} {z : List Value} {by_ m : Nat} {parts : Array (Nat × Value)} {cells : Array Value} (hs : arrN P t = some (n, sz)) (ht : TI P t z m by_) (hf : Instr.fill (fun i => some (i * sz, sz)) ⟨z⟩ parts.toList = some cells) : qa P (Instr.build t parts) k = k (.agg cells) := qa_eq (fun h k => rd_blda hs ht hf) k
theorem qa_fv {s : TypeId} {g o : Nat} {l : List Value} {v : Value} (hf : fldSc P s g = some o) (hv : l[o]? = some v) : qa P (Instr.field s (.agg ⟨l⟩) g) k = k v := qa_eq (fun h k => rd_fv hf hv) k
theorem qa_av {t e : TypeId} {n i : Nat} {ik : IntKind} {l : List Value} {v : Value} (hu : P.underlying t = some (.array n e)) (he : scT P e = true) (hz : (P.info? e).map (·.size) = some 1) (hi : i < n) (hv : l[i]? = some v) : qa P (Instr.index t (.agg ⟨l⟩) (.int ik (i : Int))) k = k v := qa_eq (fun h k => rd_av hu he hz hi hv) k
theorem qa_ixa {t : TypeId} {n sz b o i : Nat} {ik : IntKind} (hs : arrN P t = some (n, sz)) (hi : i < n) : qa P (Instr.indexAt t (.pointer (some ⟨b, o, none⟩)) (.int ik (i : Int))) k = k (.pointer (some ⟨b, o + i * sz, none⟩)) := qa_eq (fun h k => rd_ixa hs hi) k
theorem qa_mf {fn : Fn} {a c : Array Value} : qa P (Instr.makeFunc fn a c) k = k (.func fn a c) := qa_eq (fun h k => rd_mf) k
theorem qa_min {at_ : Array TypeId} {ty : TypeId} {kk kk' : IntKind} {a b : Int} : qa P (Builtin.min_ at_ ty #[.int kk a, .int kk' b]) k = k (.int kk (min a b)) := qa_eq (fun h k => rd_min) k
theorem qa_max {at_ : Array TypeId} {ty : TypeId} {kk kk' : IntKind} {a b : Int} : qa P (Builtin.max_ at_ ty #[.int kk a, .int kk' b]) k = k (.int kk (max a b)) := qa_eq (fun h k => rd_max) k
theorem qa_mi {t : TypeId} {x : Value} (hs : P.underlying t ≠ none) (hn : ∀ ms, P.underlying t ≠ some (.interface ms)) : qa P (Instr.makeInterface t x) k = k (.iface t x) := qa_eq (fun h k => rd_mi hs hn) k
theorem qa_slnil {t : TypeId} {x y : Operand} {a : Option Addr} {n c : Nat} (hs : (P.underlying t).any (fun d => match d with | .slice _ => true | _ => false) = true) : qa P (binS .eql t x y (.slice a n c) (.slice none 0 0)) k = k (.bool a.isNone) := qa_eq (fun h k => rd_slnil hs) k
theorem qa_beql {t : TypeId} {x y : Operand} {a b : Bool} (hs : P.underlying t = some .bool) : qa P (binS .eql t x y (.bool a) (.bool b)) k = k (.bool (a == b)) := qa_eq (fun h k => rd_beql hs) k
theorem qa_bneq {t : TypeId} {x y : Operand} {a b : Bool} (hs : P.underlying t = some .bool) : qa P (binS .neq t x y (.bool a) (.bool b)) k = k (.bool (a != b)) := qa_eq (fun h k => rd_bneq hs) k
theorem qa_pnil {t e : TypeId} {x y : Operand} {a : Option Addr} (hs : P.underlying t = some (.pointer e)) : qa P (binS .eql t x y (.pointer a) (.pointer none)) k = k (.bool a.isNone) := qa_eq (fun h k => rd_pnil hs) k
theorem qa_pnnil {t e : TypeId} {x y : Operand} {a : Option Addr} (hs : P.underlying t = some (.pointer e)) : qa P (binS .neq t x y (.pointer a) (.pointer none)) k = k (.bool a.isSome) := qa_eq (fun h k => rd_pnnil hs) k
end
end Go.Proofs.Ytihbhklcnbdijaa
