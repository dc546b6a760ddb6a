import Derived.Test.YtihbhklcnbdijaaBase
set_option linter.unusedVariables false
namespace Go.Proofs.Ytihbhklcnbdijaa
open Go

/-- depot/depotref00.CopyInts -/
def t_depotref00_CopyInts (a0_l : Value) (h : Heap) (Q : Value → Heap → Prop) : Prop :=
lp2 (Value.slice none 0 0) (Value.int .i64 0) h fun k3 out3_1 i4_2 g3 h1 =>
rd P h1 (Builtin.len_ #[28] 3 #[a0_l]) fun t7 =>
rd P h1 (binS .lss 3 (.tmp 5) (.tmp 7) i4_2 t7) fun t8 =>
br t8 (
rd P h1 (Instr.indexAt 28 a0_l i4_2) fun t14 =>
rd P h1 (Instr.loadAt 3 t14) fun t15 =>
sem P (Instr.buildSlice 28 1 #[(0, t15)]) h1 fun t16 h2 =>
sem P (Builtin.append_ #[28, 28] 28 #[out3_1, t16]) h2 fun t17 h3 =>
rd P h3 (binS .add 3 (.tmp 9) (.const (Value.int .i64 1)) i4_2 (Value.int .i64 1)) fun t10 =>
k3 [t17, t10] h3) (
Q out3_1 h1)
def an_depotref00_CopyInts : Ann := { loops := [(3, [3, 4], [5, 6, 7, 8, 9, 10, 11, 12, 13, 14, 15, 16, 17])], draws := [] }
noncomputable def c_depotref00_CopyInts : Code := Go.Proofs.Try.f7.body.getD .skip
theorem eq_depotref00_CopyInts (a0_l : Value) (h : Heap) (Q : Value → Heap → Prop) : t_depotref00_CopyInts a0_l h Q = fnwp P an_depotref00_CopyInts c_depotref00_CopyInts Go.Proofs.Try.f7.results.toList [a0_l] h Q := by kernel_rfl
theorem en_depotref00_CopyInts : Ent P F.depotref00_CopyInts := Ent.of (fn := Go.Proofs.Try.f7) (c := c_depotref00_CopyInts) (by kernel_rfl) (by kernel_rfl) (by kernel_rfl) (by kernel_rfl)
theorem ok_depotref00_CopyInts {a0_l : Value} {h : Heap} {Q : Value → Heap → Prop} (hw : t_depotref00_CopyInts a0_l h Q) : callF P F.depotref00_CopyInts [a0_l] h Q :=
  fn_ok (A := an_depotref00_CopyInts) (fn := Go.Proofs.Try.f7) (c := c_depotref00_CopyInts) mixed (by kernel_rfl) (by kernel_rfl) (by kernel_rfl) (Eq.mp (eq_depotref00_CopyInts a0_l h Q) hw)

/-- depot/lits.Formed -/
def t_lits_Formed (a0_l : Value) (h : Heap) (Q : Value → Heap → Prop) : Prop :=
rd P h (binS .neq 3 (.tmp 3) (.const (Value.int .i64 0)) a0_l (Value.int .i64 0)) fun t4 =>
gq (isB t4 true) (fun k => k a0_l) fun t6 =>
gq (isB t4 true) (fun k => rd P h (binS .geq 3 (.tmp 6) (.const (Value.int .i64 (-1048576))) t6 (Value.int .i64 (-1048576))) k) fun t7 =>
∃ b4 : Bool, t4 = .bool b4 ∧ (
gq (isB (cond b4 t7 (Value.bool false)) true) (fun k => k a0_l) fun t10 =>
gq (isB (cond b4 t7 (Value.bool false)) true) (fun k => rd P h (binS .leq 3 (.tmp 10) (.const (Value.int .i64 1048576)) t10 (Value.int .i64 1048576)) k) fun t11 =>
∃ b7 : Bool, (cond b4 t7 (Value.bool false)) = .bool b7 ∧ (
Q (cond b7 t11 (Value.bool false)) h))
def an_lits_Formed : Ann := { loops := [], draws := [] }
noncomputable def c_lits_Formed : Code := Go.Proofs.Try.f47.body.getD .skip
theorem eq_lits_Formed (a0_l : Value) (h : Heap) (Q : Value → Heap → Prop) : t_lits_Formed a0_l h Q = fnwp P an_lits_Formed c_lits_Formed Go.Proofs.Try.f47.results.toList [a0_l] h Q := by kernel_rfl
theorem en_lits_Formed : Ent P F.lits_Formed := Ent.of (fn := Go.Proofs.Try.f47) (c := c_lits_Formed) (by kernel_rfl) (by kernel_rfl) (by kernel_rfl) (by kernel_rfl)
theorem ok_lits_Formed {a0_l : Value} {h : Heap} {Q : Value → Heap → Prop} (hw : t_lits_Formed a0_l h Q) : callF P F.lits_Formed [a0_l] h Q :=
  fn_ok (A := an_lits_Formed) (fn := Go.Proofs.Try.f47) (c := c_lits_Formed) mixed (by kernel_rfl) (by kernel_rfl) (by kernel_rfl) (Eq.mp (eq_lits_Formed a0_l h Q) hw)

/-- depot/lits.Sound -/
def t_lits_Sound (a0_c : Value) (h : Heap) (Q : Value → Heap → Prop) : Prop :=
rd P h (Builtin.len_ #[28] 3 #[a0_c]) fun t6 =>
lp1 (Value.int .i64 0) h fun k3 t7 g3 h1 =>
rd P h1 (binS .lss 3 (.tmp 7) (.tmp 6) t7 t6) fun t8 =>
br t8 (
rd P h1 (Instr.indexAt 28 a0_c t7) fun t9 =>
rd P h1 (Instr.loadAt 3 t9) fun t10 =>
callF P F.lits_Formed [t10] h1 fun t12 h2 =>
rd P h2 (Op.unary .not t12) fun t13 =>
br t13 (
Q (Value.bool false) h2) (
rd P h2 (binS .add 3 (.tmp 7) (.const (Value.int .i64 1)) t7 (Value.int .i64 1)) fun t14 =>
k3 [t14] h2)) (
Q (Value.bool true) h1)
def an_lits_Sound : Ann := { loops := [(2, [7], [2, 4, 8, 9, 10, 11, 12, 13, 14])], draws := [] }
noncomputable def c_lits_Sound : Code := Go.Proofs.Try.f68.body.getD .skip
theorem eq_lits_Sound (a0_c : Value) (h : Heap) (Q : Value → Heap → Prop) : t_lits_Sound a0_c h Q = fnwp P an_lits_Sound c_lits_Sound Go.Proofs.Try.f68.results.toList [a0_c] h Q := by kernel_rfl
theorem en_lits_Sound : Ent P F.lits_Sound := Ent.of (fn := Go.Proofs.Try.f68) (c := c_lits_Sound) (by kernel_rfl) (by kernel_rfl) (by kernel_rfl) (by kernel_rfl)
theorem ok_lits_Sound {a0_c : Value} {h : Heap} {Q : Value → Heap → Prop} (hw : t_lits_Sound a0_c h Q) : callF P F.lits_Sound [a0_c] h Q :=
  fn_ok (A := an_lits_Sound) (fn := Go.Proofs.Try.f68) (c := c_lits_Sound) mixed (by kernel_rfl) (by kernel_rfl) (by kernel_rfl) (Eq.mp (eq_lits_Sound a0_c h Q) hw)

/-- depot/lits.Var -/
def t_lits_Var (a0_l : Value) (h : Heap) (Q : Value → Heap → Prop) : Prop :=
callF P F.lits_Formed [a0_l] h fun t5 h1 =>
rd P h1 (Op.unary .not t5) fun t6 =>
br t6 (
Q (Value.int .i64 0) h1) (
rd P h1 (binS .lss 3 (.tmp 8) (.const (Value.int .i64 0)) a0_l (Value.int .i64 0)) fun t9 =>
br t9 (
rd P h1 (Op.unary .neg a0_l) fun t11 =>
Q t11 h1) (
Q a0_l h1))
def an_lits_Var : Ann := { loops := [], draws := [] }
noncomputable def c_lits_Var : Code := Go.Proofs.Try.f48.body.getD .skip
theorem eq_lits_Var (a0_l : Value) (h : Heap) (Q : Value → Heap → Prop) : t_lits_Var a0_l h Q = fnwp P an_lits_Var c_lits_Var Go.Proofs.Try.f48.results.toList [a0_l] h Q := by kernel_rfl
theorem en_lits_Var : Ent P F.lits_Var := Ent.of (fn := Go.Proofs.Try.f48) (c := c_lits_Var) (by kernel_rfl) (by kernel_rfl) (by kernel_rfl) (by kernel_rfl)
theorem ok_lits_Var {a0_l : Value} {h : Heap} {Q : Value → Heap → Prop} (hw : t_lits_Var a0_l h Q) : callF P F.lits_Var [a0_l] h Q :=
  fn_ok (A := an_lits_Var) (fn := Go.Proofs.Try.f48) (c := c_lits_Var) mixed (by kernel_rfl) (by kernel_rfl) (by kernel_rfl) (Eq.mp (eq_lits_Var a0_l h Q) hw)

/-- depot/lits.Index -/
def t_lits_Index (a0_l : Value) (h : Heap) (Q : Value → Heap → Prop) : Prop :=
callF P F.lits_Formed [a0_l] h fun t5 h1 =>
rd P h1 (Op.unary .not t5) fun t6 =>
br t6 (
Q (Value.int .i64 (-1)) h1) (
rd P h1 (binS .lss 3 (.tmp 8) (.const (Value.int .i64 0)) a0_l (Value.int .i64 0)) fun t9 =>
br t9 (
rd P h1 (Op.unary .neg a0_l) fun t11 =>
rd P h1 (binS .mul 3 (.const (Value.int .i64 2)) (.tmp 11) (Value.int .i64 2) t11) fun t12 =>
rd P h1 (binS .sub 3 (.tmp 12) (.const (Value.int .i64 1)) t12 (Value.int .i64 1)) fun t13 =>
Q t13 h1) (
rd P h1 (binS .mul 3 (.const (Value.int .i64 2)) (.tmp 14) (Value.int .i64 2) a0_l) fun t15 =>
rd P h1 (binS .sub 3 (.tmp 15) (.const (Value.int .i64 2)) t15 (Value.int .i64 2)) fun t16 =>
Q t16 h1))
def an_lits_Index : Ann := { loops := [], draws := [] }
noncomputable def c_lits_Index : Code := Go.Proofs.Try.f81.body.getD .skip
theorem eq_lits_Index (a0_l : Value) (h : Heap) (Q : Value → Heap → Prop) : t_lits_Index a0_l h Q = fnwp P an_lits_Index c_lits_Index Go.Proofs.Try.f81.results.toList [a0_l] h Q := by kernel_rfl
theorem en_lits_Index : Ent P F.lits_Index := Ent.of (fn := Go.Proofs.Try.f81) (c := c_lits_Index) (by kernel_rfl) (by kernel_rfl) (by kernel_rfl) (by kernel_rfl)
theorem ok_lits_Index {a0_l : Value} {h : Heap} {Q : Value → Heap → Prop} (hw : t_lits_Index a0_l h Q) : callF P F.lits_Index [a0_l] h Q :=
  fn_ok (A := an_lits_Index) (fn := Go.Proofs.Try.f81) (c := c_lits_Index) mixed (by kernel_rfl) (by kernel_rfl) (by kernel_rfl) (Eq.mp (eq_lits_Index a0_l h Q) hw)

/-- depot/lits.byIndex -/
def t_lits_byIndex (a0_a a1_b : Value) (h : Heap) (Q : Value → Heap → Prop) : Prop :=
callF P F.lits_Index [a0_a] h fun t6 h1 =>
callF P F.lits_Index [a1_b] h1 fun t8 h2 =>
rd P h2 (binS .sub 3 (.tmp 6) (.tmp 8) t6 t8) fun t9 =>
Q t9 h2
def an_lits_byIndex : Ann := { loops := [], draws := [] }
noncomputable def c_lits_byIndex : Code := Go.Proofs.Try.f79.body.getD .skip
theorem eq_lits_byIndex (a0_a a1_b : Value) (h : Heap) (Q : Value → Heap → Prop) : t_lits_byIndex a0_a a1_b h Q = fnwp P an_lits_byIndex c_lits_byIndex Go.Proofs.Try.f79.results.toList [a0_a, a1_b] h Q := by kernel_rfl
theorem en_lits_byIndex : Ent P F.lits_byIndex := Ent.of (fn := Go.Proofs.Try.f79) (c := c_lits_byIndex) (by kernel_rfl) (by kernel_rfl) (by kernel_rfl) (by kernel_rfl)
theorem ok_lits_byIndex {a0_a a1_b : Value} {h : Heap} {Q : Value → Heap → Prop} (hw : t_lits_byIndex a0_a a1_b h Q) : callF P F.lits_byIndex [a0_a, a1_b] h Q :=
  fn_ok (A := an_lits_byIndex) (fn := Go.Proofs.Try.f79) (c := c_lits_byIndex) mixed (by kernel_rfl) (by kernel_rfl) (by kernel_rfl) (Eq.mp (eq_lits_byIndex a0_a a1_b h Q) hw)

/-- depot/lits.Tidy -/
def t_lits_Tidy (a0_c : Value) (h : Heap) (Q : Value → Heap → Prop) : Prop :=
rd P h (Builtin.len_ #[28] 3 #[a0_c]) fun t7 =>
sem P (Instr.makeSlice 28 (Value.int .i64 0) t7) h fun t8 h1 =>
rd P h1 (Builtin.len_ #[28] 3 #[a0_c]) fun t10 =>
lp2 t8 (Value.int .i64 0) h1 fun k6 out3_4 t11 g6 h2 =>
rd P h2 (binS .lss 3 (.tmp 11) (.tmp 10) t11 t10) fun t12 =>
br t12 (
jn (fun (out3_8 : Value) (h3 : Heap) =>
rd P h3 (binS .add 3 (.tmp 11) (.const (Value.int .i64 1)) t11 (Value.int .i64 1)) fun t21 =>
k6 [out3_8, t21] h3) fun K9 =>
rd P h2 (Instr.indexAt 28 a0_c t11) fun t13 =>
rd P h2 (Instr.loadAt 3 t13) fun t14 =>
callF P F.lits_Formed [t14] h2 fun t16 h4 =>
br t16 (
sem P (Instr.buildSlice 28 1 #[(0, t14)]) h4 fun t19 h5 =>
sem P (Builtin.append_ #[28, 28] 28 #[out3_4, t19]) h5 fun t20 h6 =>
K9 t20 h6) (
K9 out3_4 h4)) (
callF P F.slices_SortFunc_int [out3_4, (Value.func (.func F.lits_byIndex) #[] #[])] h2 fun t23 h7 =>
callF P F.slices_Compact_int [out3_4] h7 fun t25 h8 =>
Q t25 h8)
def an_lits_Tidy : Ann := { loops := [(3, [3, 11], [5, 12, 13, 14, 15, 16, 17, 18, 19, 20, 21])], draws := [] }
noncomputable def c_lits_Tidy : Code := Go.Proofs.Try.f41.body.getD .skip
theorem eq_lits_Tidy (a0_c : Value) (h : Heap) (Q : Value → Heap → Prop) : t_lits_Tidy a0_c h Q = fnwp P an_lits_Tidy c_lits_Tidy Go.Proofs.Try.f41.results.toList [a0_c] h Q := by kernel_rfl
theorem en_lits_Tidy : Ent P F.lits_Tidy := Ent.of (fn := Go.Proofs.Try.f41) (c := c_lits_Tidy) (by kernel_rfl) (by kernel_rfl) (by kernel_rfl) (by kernel_rfl)
theorem ok_lits_Tidy {a0_c : Value} {h : Heap} {Q : Value → Heap → Prop} (hw : t_lits_Tidy a0_c h Q) : callF P F.lits_Tidy [a0_c] h Q :=
  fn_ok (A := an_lits_Tidy) (fn := Go.Proofs.Try.f41) (c := c_lits_Tidy) mixed (by kernel_rfl) (by kernel_rfl) (by kernel_rfl) (Eq.mp (eq_lits_Tidy a0_c h Q) hw)

/-- depot/lits.Taut -/
def t_lits_Taut (a0_c : Value) (h : Heap) (Q : Value → Heap → Prop) : Prop :=
callF P F.lits_Tidy [a0_c] h fun t6 h1 =>
lp1 (Value.int .i64 1) h1 fun k3 i4_2 g3 h2 =>
rd P h2 (Builtin.len_ #[28] 3 #[t6]) fun t9 =>
rd P h2 (binS .lss 3 (.tmp 7) (.tmp 9) i4_2 t9) fun t10 =>
br t10 (
rd P h2 (Instr.indexAt 28 t6 i4_2) fun t15 =>
rd P h2 (binS .sub 3 (.tmp 18) (.const (Value.int .i64 1)) i4_2 (Value.int .i64 1)) fun t19 =>
rd P h2 (Instr.indexAt 28 t6 t19) fun t20 =>
rd P h2 (Instr.loadAt 3 t15) fun t16 =>
rd P h2 (Instr.loadAt 3 t20) fun t21 =>
rd P h2 (Op.unary .neg t21) fun t22 =>
rd P h2 (binS .eql 3 (.tmp 16) (.tmp 22) t16 t22) fun t23 =>
br t23 (
Q (Value.bool true) h2) (
rd P h2 (binS .add 3 (.tmp 11) (.const (Value.int .i64 1)) i4_2 (Value.int .i64 1)) fun t12 =>
k3 [t12] h2)) (
Q (Value.bool false) h2)
def an_lits_Taut : Ann := { loops := [(3, [4], [2, 7, 8, 9, 10, 11, 12, 13, 14, 15, 16, 17, 18, 19, 20, 21, 22, 23])], draws := [(5, (.take 0 (.take 1 (.hold 2 true (.take 4 (.take 5 (.hold 6 true (.hold 7 true (.hold 3 true (.hold 8 true (.hold 9 true (.hold 10 true .done))))))))))))] }
noncomputable def c_lits_Taut : Code := Go.Proofs.Try.f45.body.getD .skip
theorem eq_lits_Taut (a0_c : Value) (h : Heap) (Q : Value → Heap → Prop) : t_lits_Taut a0_c h Q = fnwp P an_lits_Taut c_lits_Taut Go.Proofs.Try.f45.results.toList [a0_c] h Q := by kernel_rfl
theorem en_lits_Taut : Ent P F.lits_Taut := Ent.of (fn := Go.Proofs.Try.f45) (c := c_lits_Taut) (by kernel_rfl) (by kernel_rfl) (by kernel_rfl) (by kernel_rfl)
theorem ok_lits_Taut {a0_c : Value} {h : Heap} {Q : Value → Heap → Prop} (hw : t_lits_Taut a0_c h Q) : callF P F.lits_Taut [a0_c] h Q :=
  fn_ok (A := an_lits_Taut) (fn := Go.Proofs.Try.f45) (c := c_lits_Taut) mixed (by kernel_rfl) (by kernel_rfl) (by kernel_rfl) (Eq.mp (eq_lits_Taut a0_c h Q) hw)

/-- depot/cnf.within -/
def t_cnf_within (a0_c a1_vars : Value) (h : Heap) (Q : Value → Heap → Prop) : Prop :=
callF P F.lits_Sound [a0_c] h fun t8 h1 =>
rd P h1 (Op.unary .not t8) fun t9 =>
br t9 (
Q (Value.bool false) h1) (
rd P h1 (Builtin.len_ #[28] 3 #[a0_c]) fun t11 =>
lp1 (Value.int .i64 0) h1 fun k5 t12 g5 h2 =>
rd P h2 (binS .lss 3 (.tmp 12) (.tmp 11) t12 t11) fun t13 =>
br t13 (
rd P h2 (Instr.indexAt 28 a0_c t12) fun t14 =>
rd P h2 (Instr.loadAt 3 t14) fun t15 =>
callF P F.lits_Var [t15] h2 fun t17 h3 =>
rd P h3 (binS .gtr 3 (.tmp 17) (.tmp 18) t17 a1_vars) fun t19 =>
br t19 (
Q (Value.bool false) h3) (
rd P h3 (binS .add 3 (.tmp 12) (.const (Value.int .i64 1)) t12 (Value.int .i64 1)) fun t20 =>
k5 [t20] h3)) (
Q (Value.bool true) h2))
def an_cnf_within : Ann := { loops := [(4, [12], [4, 6, 13, 14, 15, 16, 17, 18, 19, 20])], draws := [] }
noncomputable def c_cnf_within : Code := Go.Proofs.Try.f72.body.getD .skip
theorem eq_cnf_within (a0_c a1_vars : Value) (h : Heap) (Q : Value → Heap → Prop) : t_cnf_within a0_c a1_vars h Q = fnwp P an_cnf_within c_cnf_within Go.Proofs.Try.f72.results.toList [a0_c, a1_vars] h Q := by kernel_rfl
theorem en_cnf_within : Ent P F.cnf_within := Ent.of (fn := Go.Proofs.Try.f72) (c := c_cnf_within) (by kernel_rfl) (by kernel_rfl) (by kernel_rfl) (by kernel_rfl)
theorem ok_cnf_within {a0_c a1_vars : Value} {h : Heap} {Q : Value → Heap → Prop} (hw : t_cnf_within a0_c a1_vars h Q) : callF P F.cnf_within [a0_c, a1_vars] h Q :=
  fn_ok (A := an_cnf_within) (fn := Go.Proofs.Try.f72) (c := c_cnf_within) mixed (by kernel_rfl) (by kernel_rfl) (by kernel_rfl) (Eq.mp (eq_cnf_within a0_c a1_vars h Q) hw)

/-- depot/cnf.Formed -/
def t_cnf_Formed (a0_f : Value) (h : Heap) (Q : Value → Heap → Prop) : Prop :=
sem P (Instr.box 24 a0_f) h fun f1_1 h1 =>
rd P h1 (Instr.fieldAt 24 f1_1 0) fun t5 =>
rd P h1 (Instr.loadAt 3 t5) fun t6 =>
rd P h1 (binS .lss 3 (.tmp 6) (.const (Value.int .i64 0)) t6 (Value.int .i64 0)) fun t7 =>
gq (isB t7 false) (fun k => rd P h1 (Instr.fieldAt 24 f1_1 0) k) fun t9 =>
gq (isB t7 false) (fun k => rd P h1 (Instr.loadAt 3 t9) k) fun t10 =>
gq (isB t7 false) (fun k => rd P h1 (binS .gtr 3 (.tmp 10) (.const (Value.int .i64 1048576)) t10 (Value.int .i64 1048576)) k) fun t11 =>
∃ b8 : Bool, t7 = .bool b8 ∧ (
br (cond b8 (Value.bool true) t11) (
Q (Value.bool false) h1) (
rd P h1 (Instr.fieldAt 24 f1_1 1) fun t13 =>
rd P h1 (Instr.loadAt 22 t13) fun t14 =>
rd P h1 (Builtin.len_ #[22] 3 #[t14]) fun t15 =>
lp1 (Value.int .i64 0) h1 fun k13 t16 g13 h2 =>
rd P h2 (binS .lss 3 (.tmp 16) (.tmp 15) t16 t15) fun t17 =>
br t17 (
rd P h2 (Instr.indexAt 22 t14 t16) fun t18 =>
rd P h2 (Instr.loadAt 28 t18) fun t19 =>
rd P h2 (Instr.fieldAt 24 f1_1 0) fun t21 =>
rd P h2 (Instr.loadAt 3 t21) fun t22 =>
callF P F.cnf_within [t19, t22] h2 fun t23 h3 =>
rd P h3 (Op.unary .not t23) fun t24 =>
br t24 (
Q (Value.bool false) h3) (
rd P h3 (binS .add 3 (.tmp 16) (.const (Value.int .i64 1)) t16 (Value.int .i64 1)) fun t25 =>
k13 [t25] h3)) (
Q (Value.bool true) h2)))
def an_cnf_Formed : Ann := { loops := [(4, [16], [2, 4, 17, 18, 19, 20, 21, 22, 23, 24, 25])], draws := [] }
noncomputable def c_cnf_Formed : Code := Go.Proofs.Try.f32.body.getD .skip
theorem eq_cnf_Formed (a0_f : Value) (h : Heap) (Q : Value → Heap → Prop) : t_cnf_Formed a0_f h Q = fnwp P an_cnf_Formed c_cnf_Formed Go.Proofs.Try.f32.results.toList [a0_f] h Q := by kernel_rfl
theorem en_cnf_Formed : Ent P F.cnf_Formed := Ent.of (fn := Go.Proofs.Try.f32) (c := c_cnf_Formed) (by kernel_rfl) (by kernel_rfl) (by kernel_rfl) (by kernel_rfl)
theorem ok_cnf_Formed {a0_f : Value} {h : Heap} {Q : Value → Heap → Prop} (hw : t_cnf_Formed a0_f h Q) : callF P F.cnf_Formed [a0_f] h Q :=
  fn_ok (A := an_cnf_Formed) (fn := Go.Proofs.Try.f32) (c := c_cnf_Formed) mixed (by kernel_rfl) (by kernel_rfl) (by kernel_rfl) (Eq.mp (eq_cnf_Formed a0_f h Q) hw)

/-- slices.Compact[[]int,int] -/
def t_slices_Compact_int (a0_s : Value) (h : Heap) (Q : Value → Heap → Prop) : Prop :=
rd P h (Builtin.len_ #[28] 3 #[a0_s]) fun t7 =>
rd P h (binS .lss 3 (.tmp 7) (.const (Value.int .i64 2)) t7 (Value.int .i64 2)) fun t8 =>
br t8 (
Q a0_s h) (
lp1 (Value.int .i64 1) h fun k4 k3_3 g4 h1 =>
rd P h1 (Builtin.len_ #[28] 3 #[a0_s]) fun t12 =>
rd P h1 (binS .lss 3 (.tmp 10) (.tmp 12) k3_3 t12) fun t13 =>
br t13 (
rd P h1 (Instr.indexAt 28 a0_s k3_3) fun t18 =>
rd P h1 (binS .sub 3 (.tmp 21) (.const (Value.int .i64 1)) k3_3 (Value.int .i64 1)) fun t22 =>
rd P h1 (Instr.indexAt 28 a0_s t22) fun t23 =>
rd P h1 (Instr.loadAt 3 t18) fun t19 =>
rd P h1 (Instr.loadAt 3 t23) fun t24 =>
rd P h1 (binS .eql 3 (.tmp 19) (.tmp 24) t19 t24) fun t25 =>
br t25 (
rd P h1 (Instr.sliceAt 28 a0_s (some k3_3) none none) fun t28 =>
lp2 k3_3 (Value.int .i64 1) h1 fun k16 k3_14 k25_15 g16 h2 =>
rd P h2 (Builtin.len_ #[28] 3 #[t28]) fun t31 =>
rd P h2 (binS .lss 3 (.tmp 29) (.tmp 31) k25_15 t31) fun t32 =>
br t32 (
jn (fun (k3_19 : Value) (h3 : Heap) =>
rd P h3 (binS .add 3 (.tmp 33) (.const (Value.int .i64 1)) k25_15 (Value.int .i64 1)) fun t34 =>
k16 [k3_19, t34] h3) fun K20 =>
rd P h2 (Instr.indexAt 28 t28 k25_15) fun t37 =>
rd P h2 (binS .sub 3 (.tmp 40) (.const (Value.int .i64 1)) k25_15 (Value.int .i64 1)) fun t41 =>
rd P h2 (Instr.indexAt 28 t28 t41) fun t42 =>
rd P h2 (Instr.loadAt 3 t37) fun t38 =>
rd P h2 (Instr.loadAt 3 t42) fun t43 =>
rd P h2 (binS .neq 3 (.tmp 38) (.tmp 43) t38 t43) fun t44 =>
br t44 (
rd P h2 (Instr.indexAt 28 t28 k25_15) fun t49 =>
rd P h2 (Instr.loadAt 3 t49) fun t50 =>
rd P h2 (Instr.indexAt 28 a0_s k3_14) fun t51 =>
sem P (Instr.storeAt 3 t51 t50) h2 fun _ h4 =>
rd P h4 (binS .add 3 (.tmp 52) (.const (Value.int .i64 1)) k3_14 (Value.int .i64 1)) fun t53 =>
K20 t53 h4) (
K20 k3_14 h2)) (
rd P h2 (Instr.sliceAt 28 a0_s (some k3_14) none none) fun t56 =>
sem P (Builtin.clear_ #[28] 0 #[t56]) h2 fun _ h5 =>
rd P h5 (Instr.sliceAt 28 a0_s none (some k3_14) none) fun t59 =>
Q t59 h5)) (
rd P h1 (binS .add 3 (.tmp 14) (.const (Value.int .i64 1)) k3_3 (Value.int .i64 1)) fun t15 =>
k4 [t15] h1)) (
Q a0_s h1))
def an_slices_Compact_int : Ann := { loops := [(4, [3], [2, 4, 5, 10, 11, 12, 13, 14, 15, 16, 17, 18, 19, 20, 21, 22, 23, 24, 25, 26, 27, 28, 29, 30, 31, 32, 33, 34, 35, 36, 37, 38, 39, 40, 41, 42, 43, 44, 45, 46, 47, 48, 49, 50, 51, 52, 53, 54, 55, 56, 57, 58, 59]), (9, [3, 5], [29, 30, 31, 32, 33, 34, 35, 36, 37, 38, 39, 40, 41, 42, 43, 44, 45, 46, 47, 48, 49, 50, 51, 52, 53])], draws := [(6, (.take 0 (.take 1 (.hold 2 true (.take 4 (.take 5 (.hold 6 true (.hold 7 true (.hold 3 true (.hold 8 true (.hold 9 true .done))))))))))), (11, (.take 0 (.take 1 (.hold 2 true (.take 4 (.take 5 (.hold 6 true (.hold 7 true (.hold 3 true (.hold 8 true (.hold 9 true .done)))))))))))] }
noncomputable def c_slices_Compact_int : Code := Go.Proofs.Try.f80.body.getD .skip
theorem eq_slices_Compact_int (a0_s : Value) (h : Heap) (Q : Value → Heap → Prop) : t_slices_Compact_int a0_s h Q = fnwp P an_slices_Compact_int c_slices_Compact_int Go.Proofs.Try.f80.results.toList [a0_s] h Q := by kernel_rfl
theorem en_slices_Compact_int : Ent P F.slices_Compact_int := Ent.of (fn := Go.Proofs.Try.f80) (c := c_slices_Compact_int) (by kernel_rfl) (by kernel_rfl) (by kernel_rfl) (by kernel_rfl)
theorem ok_slices_Compact_int {a0_s : Value} {h : Heap} {Q : Value → Heap → Prop} (hw : t_slices_Compact_int a0_s h Q) : callF P F.slices_Compact_int [a0_s] h Q :=
  fn_ok (A := an_slices_Compact_int) (fn := Go.Proofs.Try.f80) (c := c_slices_Compact_int) mixed (by kernel_rfl) (by kernel_rfl) (by kernel_rfl) (Eq.mp (eq_slices_Compact_int a0_s h Q) hw)
end Go.Proofs.Ytihbhklcnbdijaa
