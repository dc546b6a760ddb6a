import Derived.Test.YtihbhklcnbdijaaBase
set_option linter.unusedVariables false
namespace Go.Proofs.Ytihbhklcnbdijaa
open Go

/-- depot/depotlaw07.truth -/
def t_depotlaw07_truth (a0_m a1_l : Value) (h : Heap) (Q : Value → Heap → Prop) : Prop :=
rd P h (binS .lss 3 (.tmp 5) (.const (Value.int .i64 0)) a1_l (Value.int .i64 0)) fun t6 =>
br t6 (
rd P h (Builtin.len_ #[25] 3 #[a0_m]) fun t9 =>
rd P h (Op.unary .neg t9) fun t10 =>
rd P h (binS .lss 3 (.tmp 7) (.tmp 10) a1_l t10) fun t11 =>
gq (isB t11 false) (fun k => k a0_m) fun t13 =>
gq (isB t11 false) (fun k => k a1_l) fun t14 =>
gq (isB t11 false) (fun k => rd P h (Op.unary .neg t14) k) fun t15 =>
gq (isB t11 false) (fun k => rd P h (binS .sub 3 (.tmp 15) (.const (Value.int .i64 1)) t15 (Value.int .i64 1)) k) fun t16 =>
gq (isB t11 false) (fun k => rd P h (Instr.indexAt 25 t13 t16) k) fun t17 =>
gq (isB t11 false) (fun k => rd P h (Instr.loadAt 4 t17) k) fun t18 =>
gq (isB t11 false) (fun k => rd P h (Op.unary .not t18) k) fun t19 =>
∃ b12 : Bool, t11 = .bool b12 ∧ (
Q (cond b12 (Value.bool true) t19) h)) (
rd P h (binS .gtr 3 (.tmp 21) (.const (Value.int .i64 0)) a1_l (Value.int .i64 0)) fun t22 =>
gq (isB t22 true) (fun k => k a1_l) fun t24 =>
gq (isB t22 true) (fun k => k a0_m) fun t25 =>
gq (isB t22 true) (fun k => rd P h (Builtin.len_ #[25] 3 #[t25]) k) fun t26 =>
gq (isB t22 true) (fun k => rd P h (binS .leq 3 (.tmp 24) (.tmp 26) t24 t26) k) fun t27 =>
∃ b18 : Bool, t22 = .bool b18 ∧ (
gq (isB (cond b18 t27 (Value.bool false)) true) (fun k => k a0_m) fun t30 =>
gq (isB (cond b18 t27 (Value.bool false)) true) (fun k => k a1_l) fun t31 =>
gq (isB (cond b18 t27 (Value.bool false)) true) (fun k => rd P h (binS .sub 3 (.tmp 31) (.const (Value.int .i64 1)) t31 (Value.int .i64 1)) k) fun t32 =>
gq (isB (cond b18 t27 (Value.bool false)) true) (fun k => rd P h (Instr.indexAt 25 t30 t32) k) fun t33 =>
gq (isB (cond b18 t27 (Value.bool false)) true) (fun k => rd P h (Instr.loadAt 4 t33) k) fun t34 =>
∃ b24 : Bool, (cond b18 t27 (Value.bool false)) = .bool b24 ∧ (
Q (cond b24 t34 (Value.bool false)) h)))
def an_depotlaw07_truth : Ann := { loops := [], draws := [] }
noncomputable def c_depotlaw07_truth : Code := Go.Proofs.Try.f10.body.getD .skip
theorem eq_depotlaw07_truth (a0_m a1_l : Value) (h : Heap) (Q : Value → Heap → Prop) : t_depotlaw07_truth a0_m a1_l h Q = fnwp P an_depotlaw07_truth c_depotlaw07_truth Go.Proofs.Try.f10.results.toList [a0_m, a1_l] h Q := by kernel_rfl
theorem en_depotlaw07_truth : Ent P F.depotlaw07_truth := Ent.of (fn := Go.Proofs.Try.f10) (c := c_depotlaw07_truth) (by kernel_rfl) (by kernel_rfl) (by kernel_rfl) (by kernel_rfl)
theorem ok_depotlaw07_truth {a0_m a1_l : Value} {h : Heap} {Q : Value → Heap → Prop} (hw : t_depotlaw07_truth a0_m a1_l h Q) : callF P F.depotlaw07_truth [a0_m, a1_l] h Q :=
  fn_ok (A := an_depotlaw07_truth) (fn := Go.Proofs.Try.f10) (c := c_depotlaw07_truth) mixed (by kernel_rfl) (by kernel_rfl) (by kernel_rfl) (Eq.mp (eq_depotlaw07_truth a0_m a1_l h Q) hw)

/-- depot/depotlaw07.holds -/
def t_depotlaw07_holds (a0_m a1_c : Value) (h : Heap) (Q : Value → Heap → Prop) : Prop :=
lp1 (Value.int .i64 0) h fun k2 i5_1 g2 h1 =>
rd P h1 (Builtin.len_ #[28] 3 #[a1_c]) fun t8 =>
rd P h1 (binS .lss 3 (.tmp 6) (.tmp 8) i5_1 t8) fun t9 =>
br t9 (
rd P h1 (Instr.indexAt 28 a1_c i5_1) fun t15 =>
rd P h1 (Instr.loadAt 3 t15) fun t16 =>
callF P F.depotlaw07_truth [a0_m, t16] h1 fun t17 h2 =>
br t17 (
Q (Value.bool true) h2) (
rd P h2 (binS .add 3 (.tmp 10) (.const (Value.int .i64 1)) i5_1 (Value.int .i64 1)) fun t11 =>
k2 [t11] h2)) (
Q (Value.bool false) h1)
def an_depotlaw07_holds : Ann := { loops := [(2, [5], [4, 6, 7, 8, 9, 10, 11, 12, 13, 14, 15, 16, 17])], draws := [] }
noncomputable def c_depotlaw07_holds : Code := Go.Proofs.Try.f6.body.getD .skip
theorem eq_depotlaw07_holds (a0_m a1_c : Value) (h : Heap) (Q : Value → Heap → Prop) : t_depotlaw07_holds a0_m a1_c h Q = fnwp P an_depotlaw07_holds c_depotlaw07_holds Go.Proofs.Try.f6.results.toList [a0_m, a1_c] h Q := by kernel_rfl
theorem en_depotlaw07_holds : Ent P F.depotlaw07_holds := Ent.of (fn := Go.Proofs.Try.f6) (c := c_depotlaw07_holds) (by kernel_rfl) (by kernel_rfl) (by kernel_rfl) (by kernel_rfl)
theorem ok_depotlaw07_holds {a0_m a1_c : Value} {h : Heap} {Q : Value → Heap → Prop} (hw : t_depotlaw07_holds a0_m a1_c h Q) : callF P F.depotlaw07_holds [a0_m, a1_c] h Q :=
  fn_ok (A := an_depotlaw07_holds) (fn := Go.Proofs.Try.f6) (c := c_depotlaw07_holds) mixed (by kernel_rfl) (by kernel_rfl) (by kernel_rfl) (Eq.mp (eq_depotlaw07_holds a0_m a1_c h Q) hw)

/-- (*depot/watch.Watch).Depth -/
def t_watch_Watch_Depth (a0_w : Value) (h : Heap) (Q : Value → Heap → Prop) : Prop :=
okNil a0_w = true ∧ (
rd P h (Instr.fieldAt 65 a0_w 2) fun t5 =>
rd P h (Instr.loadAt 28 t5) fun t6 =>
rd P h (Builtin.len_ #[28] 3 #[t6]) fun t7 =>
Q t7 h)
def an_watch_Watch_Depth : Ann := { loops := [], draws := [] }
noncomputable def c_watch_Watch_Depth : Code := Go.Proofs.Try.f39.body.getD .skip
theorem eq_watch_Watch_Depth (a0_w : Value) (h : Heap) (Q : Value → Heap → Prop) : t_watch_Watch_Depth a0_w h Q = fnwp P an_watch_Watch_Depth c_watch_Watch_Depth Go.Proofs.Try.f39.results.toList [a0_w] h Q := by kernel_rfl
theorem en_watch_Watch_Depth : Ent P F.watch_Watch_Depth := Ent.of (fn := Go.Proofs.Try.f39) (c := c_watch_Watch_Depth) (by kernel_rfl) (by kernel_rfl) (by kernel_rfl) (by kernel_rfl)
theorem ok_watch_Watch_Depth {a0_w : Value} {h : Heap} {Q : Value → Heap → Prop} (hw : t_watch_Watch_Depth a0_w h Q) : callF P F.watch_Watch_Depth [a0_w] h Q :=
  fn_ok (A := an_watch_Watch_Depth) (fn := Go.Proofs.Try.f39) (c := c_watch_Watch_Depth) mixed (by kernel_rfl) (by kernel_rfl) (by kernel_rfl) (Eq.mp (eq_watch_Watch_Depth a0_w h Q) hw)

/-- (*depot/watch.Watch).of -/
def t_watch_Watch_of (a0_w a1_l : Value) (h : Heap) (Q : Value → Heap → Prop) : Prop :=
rd P h (binS .lss 3 (.tmp 5) (.const (Value.int .i64 0)) a1_l (Value.int .i64 0)) fun t6 =>
br t6 (
okNil a0_w = true ∧ (
rd P h (Instr.fieldAt 65 a0_w 0) fun t9 =>
rd P h (Instr.loadAt 61 t9) fun t10 =>
rd P h (Op.unary .neg a1_l) fun t12 =>
rd P h (Instr.indexAt 61 t10 t12) fun t13 =>
rd P h (Instr.loadAt 68 t13) fun t14 =>
rd P h (Op.unary .neg t14) fun t15 =>
Q t15 h)) (
okNil a0_w = true ∧ (
rd P h (Instr.fieldAt 65 a0_w 0) fun t18 =>
rd P h (Instr.loadAt 61 t18) fun t19 =>
rd P h (Instr.indexAt 61 t19 a1_l) fun t21 =>
rd P h (Instr.loadAt 68 t21) fun t22 =>
Q t22 h))
def an_watch_Watch_of : Ann := { loops := [], draws := [] }
noncomputable def c_watch_Watch_of : Code := Go.Proofs.Try.f35.body.getD .skip
theorem eq_watch_Watch_of (a0_w a1_l : Value) (h : Heap) (Q : Value → Heap → Prop) : t_watch_Watch_of a0_w a1_l h Q = fnwp P an_watch_Watch_of c_watch_Watch_of Go.Proofs.Try.f35.results.toList [a0_w, a1_l] h Q := by kernel_rfl
theorem en_watch_Watch_of : Ent P F.watch_Watch_of := Ent.of (fn := Go.Proofs.Try.f35) (c := c_watch_Watch_of) (by kernel_rfl) (by kernel_rfl) (by kernel_rfl) (by kernel_rfl)
theorem ok_watch_Watch_of {a0_w a1_l : Value} {h : Heap} {Q : Value → Heap → Prop} (hw : t_watch_Watch_of a0_w a1_l h Q) : callF P F.watch_Watch_of [a0_w, a1_l] h Q :=
  fn_ok (A := an_watch_Watch_of) (fn := Go.Proofs.Try.f35) (c := c_watch_Watch_of) mixed (by kernel_rfl) (by kernel_rfl) (by kernel_rfl) (Eq.mp (eq_watch_Watch_of a0_w a1_l h Q) hw)

/-- (*depot/watch.Watch).attach -/
def t_watch_Watch_attach (a0_w a1_h : Value) (h : Heap) (Q : Value → Heap → Prop) : Prop :=
okNil a1_h = true ∧ (
rd P h (Instr.fieldAt 118 a1_h 0) fun t12 =>
rd P h (Instr.loadAt 28 t12) fun t13 =>
rd P h (Builtin.len_ #[28] 3 #[t13]) fun t14 =>
lp2 (Value.slice none 0 0) (Value.int .i64 0) h fun k6 l5_4 t15 g6 h1 =>
rd P h1 (binS .lss 3 (.tmp 15) (.tmp 14) t15 t14) fun t16 =>
br t16 (
jn (fun (l5_8 : Value) (h2 : Heap) =>
rd P h2 (binS .add 3 (.tmp 15) (.const (Value.int .i64 1)) t15 (Value.int .i64 1)) fun t27 =>
k6 [l5_8, t27] h2) fun K9 =>
rd P h1 (Instr.indexAt 28 t13 t15) fun t17 =>
rd P h1 (Instr.loadAt 3 t17) fun t18 =>
callF P F.watch_Watch_of [a0_w, t18] h1 fun t21 h3 =>
rd P h3 (binS .geq 68 (.tmp 21) (.const (Value.int .i8 0)) t21 (Value.int .i8 0)) fun t22 =>
br t22 (
sem P (Instr.buildSlice 28 1 #[(0, t18)]) h3 fun t25 h4 =>
sem P (Builtin.append_ #[28, 28] 28 #[l5_4, t25]) h4 fun t26 h5 =>
K9 t26 h5) (
K9 l5_4 h3)) (
rd P h1 (Builtin.len_ #[28] 3 #[l5_4]) fun t29 =>
rd P h1 (binS .lss 3 (.tmp 29) (.const (Value.int .i64 2)) t29 (Value.int .i64 2)) fun t30 =>
br t30 (
Q (Value.bool false) h1) (
qa P (Instr.indexAt 28 l5_4 (Value.int .i64 0)) fun t33 =>
qa P (Instr.indexAt 28 l5_4 (Value.int .i64 1)) fun t36 =>
∃ S21 : Heap → Prop, S21 h1 ∧ (
qs P S21 (Instr.loadAt 3 t33) fun t34 =>
∃ S23 : Heap → Prop, S23 h1 ∧ (
qs P S23 (Instr.loadAt 3 t36) fun t37 =>
qa P (Instr.build 91 #[(0, t34), (1, t37)]) fun t38 =>
okNil a1_h = true ∧ (
qa P (Instr.fieldAt 118 a1_h 1) fun t40 =>
sem P (Instr.storeAt 91 t40 t38) h1 fun _ h6 =>
okNil a1_h = true ∧ (
rd P h6 (Instr.fieldAt 118 a1_h 1) fun t43 =>
rd P h6 (Instr.loadAt 91 t43) fun t44 =>
lp1 (Value.int .i64 0) h6 fun k30 t45 g30 h7 =>
rd P h7 (binS .lss 3 (.tmp 45) (.const (Value.int .i64 2)) t45 (Value.int .i64 2)) fun t46 =>
br t46 (
rd P h7 (Instr.index 91 t44 t45) fun t47 =>
okNil a0_w = true ∧ (
qa P (Instr.fieldAt 65 a0_w 4) fun t50 =>
ca P F.lits_Index [t47] fun t53 =>
okNil a0_w = true ∧ (
qa P (Instr.fieldAt 65 a0_w 4) fun t56 =>
ca P F.lits_Index [t47] fun t59 =>
∃ S37 : Heap → Prop, S37 h7 ∧ (
qs P S37 (Instr.loadAt 62 t50) fun t51 =>
∃ S39 : Heap → Prop, S39 h7 ∧ (
qs P S39 (Instr.loadAt 62 t56) fun t57 =>
qa P (Instr.indexAt 62 t57 t59) fun t60 =>
∃ S42 : Heap → Prop, S42 h7 ∧ (
qs P S42 (Instr.loadAt 63 t60) fun t61 =>
sem P (Instr.buildSlice 63 1 #[(0, a1_h)]) h7 fun t63 h8 =>
S42 h8 ∧ S39 h8 ∧ S37 h8 ∧ (
sem P (Builtin.append_ #[63, 63] 63 #[t61, t63]) h8 fun t64 h9 =>
S39 h9 ∧ S37 h9 ∧ (
qa P (Instr.indexAt 62 t51 t53) fun t65 =>
sem P (Instr.storeAt 63 t65 t64) h9 fun _ h10 =>
rd P h10 (binS .add 3 (.tmp 45) (.const (Value.int .i64 1)) t45 (Value.int .i64 1)) fun t66 =>
k30 [t66] h10)))))))) (
Q (Value.bool true) h7))))))))
def an_watch_Watch_attach : Ann := { loops := [(3, [5, 15], [7, 16, 17, 18, 19, 20, 21, 22, 23, 24, 25, 26, 27]), (12, [45], [9, 46, 47, 48, 49, 50, 51, 52, 53, 54, 55, 56, 57, 58, 59, 60, 61, 62, 63, 64, 65, 66])], draws := [(10, (.take 0 (.take 1 (.take 2 (.take 4 (.take 5 (.hold 3 false (.hold 6 false (.take 7 (.take 8 (.take 9 (.act 10 [] .done)))))))))))), (14, (.take 0 (.take 1 (.take 2 (.take 4 (.take 5 (.take 6 (.take 7 (.take 8 (.take 10 (.take 11 (.take 14 (.hold 3 false (.hold 9 false (.take 12 (.hold 13 false (.act 15 [13, 9, 3] (.act 16 [9, 3] (.take 17 (.act 18 [] .done))))))))))))))))))))] }
noncomputable def c_watch_Watch_attach : Code := Go.Proofs.Try.f73.body.getD .skip
theorem eq_watch_Watch_attach (a0_w a1_h : Value) (h : Heap) (Q : Value → Heap → Prop) : t_watch_Watch_attach a0_w a1_h h Q = fnwp P an_watch_Watch_attach c_watch_Watch_attach Go.Proofs.Try.f73.results.toList [a0_w, a1_h] h Q := by kernel_rfl
theorem en_watch_Watch_attach : Ent P F.watch_Watch_attach := Ent.of (fn := Go.Proofs.Try.f73) (c := c_watch_Watch_attach) (by kernel_rfl) (by kernel_rfl) (by kernel_rfl) (by kernel_rfl)
theorem ok_watch_Watch_attach {a0_w a1_h : Value} {h : Heap} {Q : Value → Heap → Prop} (hw : t_watch_Watch_attach a0_w a1_h h Q) : callF P F.watch_Watch_attach [a0_w, a1_h] h Q :=
  fn_ok (A := an_watch_Watch_attach) (fn := Go.Proofs.Try.f73) (c := c_watch_Watch_attach) mixed (by kernel_rfl) (by kernel_rfl) (by kernel_rfl) (Eq.mp (eq_watch_Watch_attach a0_w a1_h h Q) hw)

/-- (*depot/watch.Watch).hold -/
def t_watch_Watch_hold (a0_w a1_c : Value) (h : Heap) (Q : Value → Heap → Prop) : Prop :=
callF P F.lits_Taut [a1_c] h fun t6 h1 =>
br t6 (
Q (.tuple #[]) h1) (
callF P F.lits_Tidy [a1_c] h1 fun t8 h2 =>
rd P h2 (Instr.build 118 #[(0, t8)]) fun t9 =>
sem P (Instr.box 118 t9) h2 fun t10 h3 =>
callF P F.watch_Watch_Depth [a0_w] h3 fun t12 h4 =>
rd P h4 (binS .gtr 3 (.tmp 12) (.const (Value.int .i64 0)) t12 (Value.int .i64 0)) fun t13 =>
gq (isB t13 false) (fun k => k a0_w) fun t15 =>
gq (isB t13 false) (fun k => k t10) fun t16 =>
gd (isB t13 false) (fun h6 k => callF P F.watch_Watch_attach [t15, t16] h6 k) h4 fun t17 h5 =>
gq (isB t13 false) (fun k => rd P h5 (Op.unary .not t17) k) fun t18 =>
∃ b11 : Bool, t13 = .bool b11 ∧ (
br (cond b11 (Value.bool true) t18) (
okNil a0_w = true ∧ (
rd P h5 (Instr.fieldAt 65 a0_w 5) fun t23 =>
rd P h5 (Instr.loadAt 63 t23) fun t24 =>
sem P (Instr.buildSlice 63 1 #[(0, t10)]) h5 fun t26 h7 =>
sem P (Builtin.append_ #[63, 63] 63 #[t24, t26]) h7 fun t27 h8 =>
okNil a0_w = true ∧ (
rd P h8 (Instr.fieldAt 65 a0_w 5) fun t29 =>
sem P (Instr.storeAt 63 t29 t27) h8 fun _ h9 =>
Q (.tuple #[]) h9))) (
Q (.tuple #[]) h5)))
def an_watch_Watch_hold : Ann := { loops := [], draws := [] }
noncomputable def c_watch_Watch_hold : Code := Go.Proofs.Try.f33.body.getD .skip
theorem eq_watch_Watch_hold (a0_w a1_c : Value) (h : Heap) (Q : Value → Heap → Prop) : t_watch_Watch_hold a0_w a1_c h Q = fnwp P an_watch_Watch_hold c_watch_Watch_hold Go.Proofs.Try.f33.results.toList [a0_w, a1_c] h Q := by kernel_rfl
theorem en_watch_Watch_hold : Ent P F.watch_Watch_hold := Ent.of (fn := Go.Proofs.Try.f33) (c := c_watch_Watch_hold) (by kernel_rfl) (by kernel_rfl) (by kernel_rfl) (by kernel_rfl)
theorem ok_watch_Watch_hold {a0_w a1_c : Value} {h : Heap} {Q : Value → Heap → Prop} (hw : t_watch_Watch_hold a0_w a1_c h Q) : callF P F.watch_Watch_hold [a0_w, a1_c] h Q :=
  fn_ok (A := an_watch_Watch_hold) (fn := Go.Proofs.Try.f33) (c := c_watch_Watch_hold) mixed (by kernel_rfl) (by kernel_rfl) (by kernel_rfl) (Eq.mp (eq_watch_Watch_hold a0_w a1_c h Q) hw)

/-- depot/watch.New -/
def t_watch_New (a0_f : Value) (h : Heap) (Q : Value → Heap → Prop) : Prop :=
sem P (Instr.box 24 a0_f) h fun f1_1 h1 =>
rd P h1 (Instr.loadAt 24 f1_1) fun t7 =>
callF P F.cnf_Formed [t7] h1 fun t8 h2 =>
rd P h2 (Op.unary .not t8) fun t9 =>
br t9 (
Q (.tuple #[(Value.pointer none), (Value.int .i64 1)]) h2) (
jn (fun (w4_5 : Value) (h3 : Heap) =>
rd P h3 (Instr.fieldAt 24 f1_1 1) fun t20 =>
rd P h3 (Instr.loadAt 22 t20) fun t21 =>
rd P h3 (Builtin.len_ #[22] 3 #[t21]) fun t22 =>
lp1 (Value.int .i64 0) h3 fun k11 t23 g11 h4 =>
rd P h4 (binS .lss 3 (.tmp 23) (.tmp 22) t23 t22) fun t24 =>
br t24 (
rd P h4 (Instr.indexAt 22 t21 t23) fun t25 =>
rd P h4 (Instr.loadAt 28 t25) fun t26 =>
callF P F.watch_Watch_hold [w4_5, t26] h4 fun t29 h5 =>
rd P h5 (binS .add 3 (.tmp 23) (.const (Value.int .i64 1)) t23 (Value.int .i64 1)) fun t30 =>
k11 [t30] h5) (
Q (.tuple #[w4_5, (Value.int .i64 0)]) h4)) fun K6 =>
qa P (Instr.fieldAt 24 f1_1 0) fun t10 =>
qa P (Instr.fieldAt 24 f1_1 0) fun t14 =>
∃ S19 : Heap → Prop, S19 h2 ∧ (
qs P S19 (Instr.loadAt 3 t10) fun t11 =>
qa P (binS .add 3 (.tmp 11) (.const (Value.int .i64 1)) t11 (Value.int .i64 1)) fun t12 =>
∃ S22 : Heap → Prop, S22 h2 ∧ (
qs P S22 (Instr.loadAt 3 t14) fun t15 =>
qa P (binS .mul 3 (.const (Value.int .i64 2)) (.tmp 15) (Value.int .i64 2) t15) fun t16 =>
(sem P (Instr.makeSlice 61 t12 t12) h2 fun t13 h6 =>
S22 h6 ∧ S19 h6 ∧ (
sem P (Instr.makeSlice 62 t16 t16) h6 fun t17 h7 =>
S22 h7 ∧ S19 h7 ∧ (
qa P (Instr.build 65 #[(0, t13), (4, t17)]) fun t18 =>
sem P (Instr.box 65 t18) h7 fun t19 h8 =>
S22 h8 ∧ S19 h8 ∧ (
K6 t19 h8)))) ∧ (
sem P (Instr.makeSlice 62 t16 t16) h2 fun t17_29 h9 =>
S22 h9 ∧ S19 h9 ∧ (
sem P (Instr.makeSlice 61 t12 t12) h9 fun t13_30 h10 =>
S22 h10 ∧ S19 h10 ∧ (
qa P (Instr.build 65 #[(0, t13_30), (4, t17_29)]) fun t18_31 =>
sem P (Instr.box 65 t18_31) h10 fun t19_32 h11 =>
S22 h11 ∧ S19 h11 ∧ (
K6 t19_32 h11)))))))
def an_watch_New : Ann := { loops := [(5, [23], [6, 24, 25, 26, 27, 28, 29, 30])], draws := [(3, (.take 0 (.take 4 (.hold 1 false (.take 2 (.hold 5 false (.take 6 (.br 3 [5, 1] (.act 7 [5, 1] (.take 8 (.act 9 [5, 1] (.take 10 .done)))) (.act 7 [5, 1] (.act 3 [5, 1] (.take 8 (.act 9 [5, 1] (.take 10 .done)))))))))))))] }
noncomputable def c_watch_New : Code := Go.Proofs.Try.f8.body.getD .skip
theorem eq_watch_New (a0_f : Value) (h : Heap) (Q : Value → Heap → Prop) : t_watch_New a0_f h Q = fnwp P an_watch_New c_watch_New Go.Proofs.Try.f8.results.toList [a0_f] h Q := by kernel_rfl
theorem en_watch_New : Ent P F.watch_New := Ent.of (fn := Go.Proofs.Try.f8) (c := c_watch_New) (by kernel_rfl) (by kernel_rfl) (by kernel_rfl) (by kernel_rfl)
theorem ok_watch_New {a0_f : Value} {h : Heap} {Q : Value → Heap → Prop} (hw : t_watch_New a0_f h Q) : callF P F.watch_New [a0_f] h Q :=
  fn_ok (A := an_watch_New) (fn := Go.Proofs.Try.f8) (c := c_watch_New) mixed (by kernel_rfl) (by kernel_rfl) (by kernel_rfl) (Eq.mp (eq_watch_New a0_f h Q) hw)

/-- (*depot/watch.Watch).within -/
def t_watch_Watch_within (a0_w a1_c : Value) (h : Heap) (Q : Value → Heap → Prop) : Prop :=
rd P h (Builtin.len_ #[28] 3 #[a1_c]) fun t8 =>
lp1 (Value.int .i64 0) h fun k3 t9 g3 h1 =>
rd P h1 (binS .lss 3 (.tmp 9) (.tmp 8) t9 t8) fun t10 =>
br t10 (
rd P h1 (Instr.indexAt 28 a1_c t9) fun t11 =>
rd P h1 (Instr.loadAt 3 t11) fun t12 =>
rc P h1 F.lits_Formed [t12] fun t14 =>
rd P h1 (Op.unary .not t14) fun t15 =>
gq (isB t15 false) (fun k => k t12) fun t17 =>
gq (isB t15 false) (fun k => rc P h1 F.lits_Var [t17] k) fun t18 =>
gq (isB t15 false) (fun k => k a0_w) fun t19 =>
gq (isB t15 false) (fun k => okNil t19 = true ∧ k t19) fun t20 =>
gq (isB t15 false) (fun k => rd P h1 (Instr.fieldAt 65 t20 0) k) fun t21 =>
gq (isB t15 false) (fun k => rd P h1 (Instr.loadAt 61 t21) k) fun t22 =>
gq (isB t15 false) (fun k => rd P h1 (Builtin.len_ #[61] 3 #[t22]) k) fun t23 =>
gq (isB t15 false) (fun k => rd P h1 (binS .geq 3 (.tmp 18) (.tmp 23) t18 t23) k) fun t24 =>
∃ b17 : Bool, t15 = .bool b17 ∧ (
br (cond b17 (Value.bool true) t24) (
Q (Value.bool false) h1) (
rd P h1 (binS .add 3 (.tmp 9) (.const (Value.int .i64 1)) t9 (Value.int .i64 1)) fun t26 =>
k3 [t26] h1))) (
Q (Value.bool true) h1)
def an_watch_Watch_within : Ann := { loops := [(2, [9], [4, 6, 10, 11, 12, 13, 14, 15, 16, 17, 18, 19, 20, 21, 22, 23, 24, 25, 26])], draws := [(4, (.take 0 (.hold 1 true (.hold 2 true (.take 3 (.take 4 (.hold 5 true (.take 6 (.take 7 (.hold 8 true (.hold 9 true (.hold 10 true (.hold 11 true (.take 12 .done))))))))))))))] }
noncomputable def c_watch_Watch_within : Code := Go.Proofs.Try.f34.body.getD .skip
theorem eq_watch_Watch_within (a0_w a1_c : Value) (h : Heap) (Q : Value → Heap → Prop) : t_watch_Watch_within a0_w a1_c h Q = fnwp P an_watch_Watch_within c_watch_Watch_within Go.Proofs.Try.f34.results.toList [a0_w, a1_c] h Q := by kernel_rfl
theorem en_watch_Watch_within : Ent P F.watch_Watch_within := Ent.of (fn := Go.Proofs.Try.f34) (c := c_watch_Watch_within) (by kernel_rfl) (by kernel_rfl) (by kernel_rfl) (by kernel_rfl)
theorem ok_watch_Watch_within {a0_w a1_c : Value} {h : Heap} {Q : Value → Heap → Prop} (hw : t_watch_Watch_within a0_w a1_c h Q) : callF P F.watch_Watch_within [a0_w, a1_c] h Q :=
  fn_ok (A := an_watch_Watch_within) (fn := Go.Proofs.Try.f34) (c := c_watch_Watch_within) mixed (by kernel_rfl) (by kernel_rfl) (by kernel_rfl) (Eq.mp (eq_watch_Watch_within a0_w a1_c h Q) hw)

/-- (*depot/watch.Watch).Add -/
def t_watch_Watch_Add (a0_w a1_c : Value) (h : Heap) (Q : Value → Heap → Prop) : Prop :=
callF P F.watch_Watch_within [a0_w, a1_c] h fun t7 h1 =>
rd P h1 (Op.unary .not t7) fun t8 =>
br t8 (
Q (Value.int .i64 1) h1) (
callF P F.watch_Watch_hold [a0_w, a1_c] h1 fun t11 h2 =>
okNil a0_w = true ∧ (
rd P h2 (Instr.fieldAt 65 a0_w 6) fun t14 =>
sem P (Instr.storeAt 4 t14 (Value.bool false)) h2 fun _ h3 =>
Q (Value.int .i64 0) h3))
def an_watch_Watch_Add : Ann := { loops := [], draws := [] }
noncomputable def c_watch_Watch_Add : Code := Go.Proofs.Try.f9.body.getD .skip
theorem eq_watch_Watch_Add (a0_w a1_c : Value) (h : Heap) (Q : Value → Heap → Prop) : t_watch_Watch_Add a0_w a1_c h Q = fnwp P an_watch_Watch_Add c_watch_Watch_Add Go.Proofs.Try.f9.results.toList [a0_w, a1_c] h Q := by kernel_rfl
theorem en_watch_Watch_Add : Ent P F.watch_Watch_Add := Ent.of (fn := Go.Proofs.Try.f9) (c := c_watch_Watch_Add) (by kernel_rfl) (by kernel_rfl) (by kernel_rfl) (by kernel_rfl)
theorem ok_watch_Watch_Add {a0_w a1_c : Value} {h : Heap} {Q : Value → Heap → Prop} (hw : t_watch_Watch_Add a0_w a1_c h Q) : callF P F.watch_Watch_Add [a0_w, a1_c] h Q :=
  fn_ok (A := an_watch_Watch_Add) (fn := Go.Proofs.Try.f9) (c := c_watch_Watch_Add) mixed (by kernel_rfl) (by kernel_rfl) (by kernel_rfl) (Eq.mp (eq_watch_Watch_Add a0_w a1_c h Q) hw)

/-- (*depot/watch.Watch).put -/
def t_watch_Watch_put (a0_w a1_l : Value) (h : Heap) (Q : Value → Heap → Prop) : Prop :=
okNil a0_w = true ∧ (
rd P h (Instr.fieldAt 65 a0_w 1) fun t7 =>
rd P h (Instr.loadAt 28 t7) fun t8 =>
sem P (Instr.buildSlice 28 1 #[(0, a1_l)]) h fun t10 h1 =>
sem P (Builtin.append_ #[28, 28] 28 #[t8, t10]) h1 fun t11 h2 =>
okNil a0_w = true ∧ (
rd P h2 (Instr.fieldAt 65 a0_w 1) fun t13 =>
sem P (Instr.storeAt 28 t13 t11) h2 fun _ h3 =>
rd P h3 (binS .lss 3 (.tmp 14) (.const (Value.int .i64 0)) a1_l (Value.int .i64 0)) fun t15 =>
br t15 (
okNil a0_w = true ∧ (
rd P h3 (Instr.fieldAt 65 a0_w 0) fun t18 =>
rd P h3 (Instr.loadAt 61 t18) fun t19 =>
rd P h3 (Op.unary .neg a1_l) fun t21 =>
rd P h3 (Instr.indexAt 61 t19 t21) fun t22 =>
sem P (Instr.storeAt 68 t22 (Value.int .i8 (-1))) h3 fun _ h4 =>
Q (.tuple #[]) h4)) (
okNil a0_w = true ∧ (
rd P h3 (Instr.fieldAt 65 a0_w 0) fun t25 =>
rd P h3 (Instr.loadAt 61 t25) fun t26 =>
rd P h3 (Instr.indexAt 61 t26 a1_l) fun t28 =>
sem P (Instr.storeAt 68 t28 (Value.int .i8 1)) h3 fun _ h5 =>
Q (.tuple #[]) h5))))
def an_watch_Watch_put : Ann := { loops := [], draws := [] }
noncomputable def c_watch_Watch_put : Code := Go.Proofs.Try.f36.body.getD .skip
theorem eq_watch_Watch_put (a0_w a1_l : Value) (h : Heap) (Q : Value → Heap → Prop) : t_watch_Watch_put a0_w a1_l h Q = fnwp P an_watch_Watch_put c_watch_Watch_put Go.Proofs.Try.f36.results.toList [a0_w, a1_l] h Q := by kernel_rfl
theorem en_watch_Watch_put : Ent P F.watch_Watch_put := Ent.of (fn := Go.Proofs.Try.f36) (c := c_watch_Watch_put) (by kernel_rfl) (by kernel_rfl) (by kernel_rfl) (by kernel_rfl)
theorem ok_watch_Watch_put {a0_w a1_l : Value} {h : Heap} {Q : Value → Heap → Prop} (hw : t_watch_Watch_put a0_w a1_l h Q) : callF P F.watch_Watch_put [a0_w, a1_l] h Q :=
  fn_ok (A := an_watch_Watch_put) (fn := Go.Proofs.Try.f36) (c := c_watch_Watch_put) mixed (by kernel_rfl) (by kernel_rfl) (by kernel_rfl) (Eq.mp (eq_watch_Watch_put a0_w a1_l h Q) hw)

/-- (*depot/watch.Watch).Assume -/
def t_watch_Watch_Assume (a0_w a1_l : Value) (h : Heap) (Q : Value → Heap → Prop) : Prop :=
sem P (Instr.buildSlice 28 1 #[(0, a1_l)]) h fun t8 h1 =>
callF P F.watch_Watch_within [a0_w, t8] h1 fun t9 h2 =>
rd P h2 (Op.unary .not t9) fun t10 =>
br t10 (
Q (Value.int .i64 1) h2) (
okNil a0_w = true ∧ (
rd P h2 (Instr.fieldAt 65 a0_w 6) fun t14 =>
rd P h2 (Instr.loadAt 4 t14) fun t15 =>
rd P h2 (Op.unary .not t15) fun t16 =>
br t16 (
Q (Value.int .i64 3) h2) (
callF P F.watch_Watch_of [a0_w, a1_l] h2 fun t20 h3 =>
rd P h3 (binS .neq 68 (.tmp 20) (.const (Value.int .i8 0)) t20 (Value.int .i8 0)) fun t21 =>
br t21 (
Q (Value.int .i64 50) h3) (
okNil a0_w = true ∧ (
qa P (Instr.fieldAt 65 a0_w 2) fun t25 =>
okNil a0_w = true ∧ (
qa P (Instr.fieldAt 65 a0_w 1) fun t29 =>
∃ S11 : Heap → Prop, S11 h3 ∧ (
qs P S11 (Instr.loadAt 28 t25) fun t26 =>
∃ S13 : Heap → Prop, S13 h3 ∧ (
qs P S13 (Instr.loadAt 28 t29) fun t30 =>
qa P (Builtin.len_ #[28] 3 #[t30]) fun t31 =>
sem P (Instr.buildSlice 28 1 #[(0, t31)]) h3 fun t32 h4 =>
S13 h4 ∧ S11 h4 ∧ (
sem P (Builtin.append_ #[28, 28] 28 #[t26, t32]) h4 fun t33 h5 =>
S13 h5 ∧ (
okNil a0_w = true ∧ (
qa P (Instr.fieldAt 65 a0_w 2) fun t35 =>
sem P (Instr.storeAt 28 t35 t33) h5 fun _ h6 =>
callF P F.watch_Watch_put [a0_w, a1_l] h6 fun t38 h7 =>
okNil a0_w = true ∧ (
rd P h7 (Instr.fieldAt 65 a0_w 6) fun t41 =>
sem P (Instr.storeAt 4 t41 (Value.bool false)) h7 fun _ h8 =>
Q (Value.int .i64 0) h8))))))))))))
def an_watch_Watch_Assume : Ann := { loops := [], draws := [(7, (.take 0 (.take 1 (.take 2 (.take 3 (.take 5 (.take 6 (.take 7 (.hold 4 false (.hold 8 false (.take 9 (.act 10 [8, 4] (.act 11 [8] (.take 12 (.take 13 (.act 14 [] .done))))))))))))))))] }
noncomputable def c_watch_Watch_Assume : Code := Go.Proofs.Try.f11.body.getD .skip
theorem eq_watch_Watch_Assume (a0_w a1_l : Value) (h : Heap) (Q : Value → Heap → Prop) : t_watch_Watch_Assume a0_w a1_l h Q = fnwp P an_watch_Watch_Assume c_watch_Watch_Assume Go.Proofs.Try.f11.results.toList [a0_w, a1_l] h Q := by kernel_rfl
theorem en_watch_Watch_Assume : Ent P F.watch_Watch_Assume := Ent.of (fn := Go.Proofs.Try.f11) (c := c_watch_Watch_Assume) (by kernel_rfl) (by kernel_rfl) (by kernel_rfl) (by kernel_rfl)
theorem ok_watch_Watch_Assume {a0_w a1_l : Value} {h : Heap} {Q : Value → Heap → Prop} (hw : t_watch_Watch_Assume a0_w a1_l h Q) : callF P F.watch_Watch_Assume [a0_w, a1_l] h Q :=
  fn_ok (A := an_watch_Watch_Assume) (fn := Go.Proofs.Try.f11) (c := c_watch_Watch_Assume) mixed (by kernel_rfl) (by kernel_rfl) (by kernel_rfl) (Eq.mp (eq_watch_Watch_Assume a0_w a1_l h Q) hw)

/-- (*depot/watch.Watch).cut -/
def t_watch_Watch_cut (a0_w a1_n : Value) (h : Heap) (Q : Value → Heap → Prop) : Prop :=
okNil a0_w = true ∧ (
rd P h (Instr.fieldAt 65 a0_w 1) fun t8 =>
rd P h (Instr.loadAt 28 t8) fun t9 =>
rd P h (Instr.sliceAt 28 t9 (some a1_n) none none) fun t11 =>
rd P h (Builtin.len_ #[28] 3 #[t11]) fun t12 =>
lp1 (Value.int .i64 0) h fun k6 t13 g6 h1 =>
rd P h1 (binS .lss 3 (.tmp 13) (.tmp 12) t13 t12) fun t14 =>
br t14 (
rd P h1 (Instr.indexAt 28 t11 t13) fun t15 =>
rd P h1 (Instr.loadAt 3 t15) fun t16 =>
okNil a0_w = true ∧ (
qa P (Instr.fieldAt 65 a0_w 0) fun t19 =>
ca P F.lits_Var [t16] fun t22 =>
∃ S12 : Heap → Prop, S12 h1 ∧ (
qs P S12 (Instr.loadAt 61 t19) fun t20 =>
qa P (Instr.indexAt 61 t20 t22) fun t23 =>
sem P (Instr.storeAt 68 t23 (Value.int .i8 0)) h1 fun _ h2 =>
rd P h2 (binS .add 3 (.tmp 13) (.const (Value.int .i64 1)) t13 (Value.int .i64 1)) fun t24 =>
k6 [t24] h2))) (
okNil a0_w = true ∧ (
rd P h1 (Instr.fieldAt 65 a0_w 1) fun t28 =>
rd P h1 (Instr.loadAt 28 t28) fun t29 =>
rd P h1 (Instr.sliceAt 28 t29 none (some a1_n) none) fun t31 =>
okNil a0_w = true ∧ (
rd P h1 (Instr.fieldAt 65 a0_w 1) fun t33 =>
sem P (Instr.storeAt 28 t33 t31) h1 fun _ h3 =>
okNil a0_w = true ∧ (
rd P h3 (Instr.fieldAt 65 a0_w 3) fun t37 =>
rd P h3 (Instr.loadAt 3 t37) fun t38 =>
rd P h3 (Builtin.min_ #[3, 3] 3 #[t38, a1_n]) fun t40 =>
okNil a0_w = true ∧ (
rd P h3 (Instr.fieldAt 65 a0_w 3) fun t42 =>
sem P (Instr.storeAt 3 t42 t40) h3 fun _ h4 =>
Q (.tuple #[]) h4))))))
def an_watch_Watch_cut : Ann := { loops := [(1, [13], [5, 14, 15, 16, 17, 18, 19, 20, 21, 22, 23, 24])], draws := [(3, (.take 0 (.take 1 (.take 2 (.take 4 (.take 5 (.hold 3 false (.take 6 (.act 7 [] .done)))))))))] }
noncomputable def c_watch_Watch_cut : Code := Go.Proofs.Try.f37.body.getD .skip
theorem eq_watch_Watch_cut (a0_w a1_n : Value) (h : Heap) (Q : Value → Heap → Prop) : t_watch_Watch_cut a0_w a1_n h Q = fnwp P an_watch_Watch_cut c_watch_Watch_cut Go.Proofs.Try.f37.results.toList [a0_w, a1_n] h Q := by kernel_rfl
theorem en_watch_Watch_cut : Ent P F.watch_Watch_cut := Ent.of (fn := Go.Proofs.Try.f37) (c := c_watch_Watch_cut) (by kernel_rfl) (by kernel_rfl) (by kernel_rfl) (by kernel_rfl)
theorem ok_watch_Watch_cut {a0_w a1_n : Value} {h : Heap} {Q : Value → Heap → Prop} (hw : t_watch_Watch_cut a0_w a1_n h Q) : callF P F.watch_Watch_cut [a0_w, a1_n] h Q :=
  fn_ok (A := an_watch_Watch_cut) (fn := Go.Proofs.Try.f37) (c := c_watch_Watch_cut) mixed (by kernel_rfl) (by kernel_rfl) (by kernel_rfl) (Eq.mp (eq_watch_Watch_cut a0_w a1_n h Q) hw)

/-- (*depot/watch.Watch).Undo -/
def t_watch_Watch_Undo (a0_w : Value) (h : Heap) (Q : Value → Heap → Prop) : Prop :=
okNil a0_w = true ∧ (
rd P h (Instr.fieldAt 65 a0_w 2) fun t6 =>
rd P h (Instr.loadAt 28 t6) fun t7 =>
rd P h (Builtin.len_ #[28] 3 #[t7]) fun t8 =>
rd P h (binS .sub 3 (.tmp 8) (.const (Value.int .i64 1)) t8 (Value.int .i64 1)) fun t9 =>
rd P h (binS .lss 3 (.tmp 10) (.const (Value.int .i64 0)) t9 (Value.int .i64 0)) fun t11 =>
br t11 (
Q (Value.int .i64 3) h) (
okNil a0_w = true ∧ (
rd P h (Instr.fieldAt 65 a0_w 2) fun t15 =>
rd P h (Instr.loadAt 28 t15) fun t16 =>
rd P h (Instr.indexAt 28 t16 t9) fun t18 =>
rd P h (Instr.loadAt 3 t18) fun t19 =>
callF P F.watch_Watch_cut [a0_w, t19] h fun t20 h1 =>
okNil a0_w = true ∧ (
rd P h1 (Instr.fieldAt 65 a0_w 2) fun t24 =>
rd P h1 (Instr.loadAt 28 t24) fun t25 =>
rd P h1 (Instr.sliceAt 28 t25 none (some t9) none) fun t27 =>
okNil a0_w = true ∧ (
rd P h1 (Instr.fieldAt 65 a0_w 2) fun t29 =>
sem P (Instr.storeAt 28 t29 t27) h1 fun _ h2 =>
okNil a0_w = true ∧ (
rd P h2 (Instr.fieldAt 65 a0_w 6) fun t32 =>
sem P (Instr.storeAt 4 t32 (Value.bool false)) h2 fun _ h3 =>
Q (Value.int .i64 0) h3))))))
def an_watch_Watch_Undo : Ann := { loops := [], draws := [] }
noncomputable def c_watch_Watch_Undo : Code := Go.Proofs.Try.f12.body.getD .skip
theorem eq_watch_Watch_Undo (a0_w : Value) (h : Heap) (Q : Value → Heap → Prop) : t_watch_Watch_Undo a0_w h Q = fnwp P an_watch_Watch_Undo c_watch_Watch_Undo Go.Proofs.Try.f12.results.toList [a0_w] h Q := by kernel_rfl
theorem en_watch_Watch_Undo : Ent P F.watch_Watch_Undo := Ent.of (fn := Go.Proofs.Try.f12) (c := c_watch_Watch_Undo) (by kernel_rfl) (by kernel_rfl) (by kernel_rfl) (by kernel_rfl)
theorem ok_watch_Watch_Undo {a0_w : Value} {h : Heap} {Q : Value → Heap → Prop} (hw : t_watch_Watch_Undo a0_w h Q) : callF P F.watch_Watch_Undo [a0_w] h Q :=
  fn_ok (A := an_watch_Watch_Undo) (fn := Go.Proofs.Try.f12) (c := c_watch_Watch_Undo) mixed (by kernel_rfl) (by kernel_rfl) (by kernel_rfl) (Eq.mp (eq_watch_Watch_Undo a0_w h Q) hw)

/-- slices.Clone[[]*depot/watch.held,*depot/watch.held] -/
def t_slices_Clone_watch_held (a0_s : Value) (h : Heap) (Q : Value → Heap → Prop) : Prop :=
rd P h (binS .eql 63 (.tmp 3) (.const (Value.slice none 0 0)) a0_s (Value.slice none 0 0)) fun t4 =>
br t4 (
Q (Value.slice none 0 0) h) (
sem P (Instr.buildSlice 63 0 #[]) h fun t5 h1 =>
sem P (Builtin.append_ #[63, 63] 63 #[t5, a0_s]) h1 fun t7 h2 =>
Q t7 h2)
def an_slices_Clone_watch_held : Ann := { loops := [], draws := [] }
noncomputable def c_slices_Clone_watch_held : Code := Go.Proofs.Try.f105.body.getD .skip
theorem eq_slices_Clone_watch_held (a0_s : Value) (h : Heap) (Q : Value → Heap → Prop) : t_slices_Clone_watch_held a0_s h Q = fnwp P an_slices_Clone_watch_held c_slices_Clone_watch_held Go.Proofs.Try.f105.results.toList [a0_s] h Q := by kernel_rfl
theorem en_slices_Clone_watch_held : Ent P F.slices_Clone_watch_held := Ent.of (fn := Go.Proofs.Try.f105) (c := c_slices_Clone_watch_held) (by kernel_rfl) (by kernel_rfl) (by kernel_rfl) (by kernel_rfl)
theorem ok_slices_Clone_watch_held {a0_s : Value} {h : Heap} {Q : Value → Heap → Prop} (hw : t_slices_Clone_watch_held a0_s h Q) : callF P F.slices_Clone_watch_held [a0_s] h Q :=
  fn_ok (A := an_slices_Clone_watch_held) (fn := Go.Proofs.Try.f105) (c := c_slices_Clone_watch_held) mixed (by kernel_rfl) (by kernel_rfl) (by kernel_rfl) (Eq.mp (eq_slices_Clone_watch_held a0_s h Q) hw)

/-- (*depot/watch.Watch).moved -/
def t_watch_Watch_moved (a0_w a1_h a2_l : Value) (h : Heap) (Q : Value → Heap → Prop) : Prop :=
okNil a1_h = true ∧ (
rd P h (Instr.fieldAt 118 a1_h 1) fun t12 =>
rd P h (Instr.indexAt 91 t12 (Value.int .i64 0)) fun t13 =>
rd P h (Instr.loadAt 3 t13) fun t14 =>
jn (fun (other7_4 : Value) (h1 : Heap) =>
callF P F.watch_Watch_of [a0_w, other7_4] h1 fun t34 h2 =>
rd P h2 (binS .eql 68 (.tmp 34) (.const (Value.int .i8 1)) t34 (Value.int .i8 1)) fun t35 =>
br t35 (
Q (Value.bool false) h2) (
okNil a1_h = true ∧ (
rd P h2 (Instr.fieldAt 118 a1_h 0) fun t38 =>
rd P h2 (Instr.loadAt 28 t38) fun t39 =>
rd P h2 (Builtin.len_ #[28] 3 #[t39]) fun t40 =>
lp1 (Value.int .i64 0) h2 fun k12 t41 g12 h3 =>
rd P h3 (binS .lss 3 (.tmp 41) (.tmp 40) t41 t40) fun t42 =>
br t42 (
rd P h3 (Instr.indexAt 28 t39 t41) fun t43 =>
rd P h3 (Instr.loadAt 3 t43) fun t44 =>
rd P h3 (binS .neq 3 (.tmp 45) (.tmp 46) t44 other7_4) fun t47 =>
gq (isB t47 true) (fun k => k t44) fun t49 =>
gq (isB t47 true) (fun k => k a2_l) fun t50 =>
gq (isB t47 true) (fun k => rd P h3 (binS .neq 3 (.tmp 49) (.tmp 50) t49 t50) k) fun t51 =>
∃ b20 : Bool, t47 = .bool b20 ∧ (
gq (isB (cond b20 t51 (Value.bool false)) true) (fun k => k a0_w) fun t54 =>
gq (isB (cond b20 t51 (Value.bool false)) true) (fun k => k t44) fun t55 =>
gd (isB (cond b20 t51 (Value.bool false)) true) (fun h5 k => callF P F.watch_Watch_of [t54, t55] h5 k) h3 fun t56 h4 =>
gq (isB (cond b20 t51 (Value.bool false)) true) (fun k => rd P h4 (binS .geq 68 (.tmp 56) (.const (Value.int .i8 0)) t56 (Value.int .i8 0)) k) fun t57 =>
∃ b25 : Bool, (cond b20 t51 (Value.bool false)) = .bool b25 ∧ (
br (cond b25 t57 (Value.bool false)) (
rd P h4 (Instr.build 91 #[(0, other7_4), (1, t44)]) fun t62 =>
okNil a1_h = true ∧ (
rd P h4 (Instr.fieldAt 118 a1_h 1) fun t64 =>
sem P (Instr.storeAt 91 t64 t62) h4 fun _ h6 =>
okNil a0_w = true ∧ (
qa P (Instr.fieldAt 65 a0_w 4) fun t67 =>
ca P F.lits_Index [t44] fun t70 =>
okNil a0_w = true ∧ (
qa P (Instr.fieldAt 65 a0_w 4) fun t73 =>
ca P F.lits_Index [t44] fun t76 =>
∃ S32 : Heap → Prop, S32 h6 ∧ (
qs P S32 (Instr.loadAt 62 t67) fun t68 =>
∃ S34 : Heap → Prop, S34 h6 ∧ (
qs P S34 (Instr.loadAt 62 t73) fun t74 =>
qa P (Instr.indexAt 62 t74 t76) fun t77 =>
∃ S37 : Heap → Prop, S37 h6 ∧ (
qs P S37 (Instr.loadAt 63 t77) fun t78 =>
sem P (Instr.buildSlice 63 1 #[(0, a1_h)]) h6 fun t80 h7 =>
S37 h7 ∧ S34 h7 ∧ S32 h7 ∧ (
sem P (Builtin.append_ #[63, 63] 63 #[t78, t80]) h7 fun t81 h8 =>
S34 h8 ∧ S32 h8 ∧ (
qa P (Instr.indexAt 62 t68 t70) fun t82 =>
sem P (Instr.storeAt 63 t82 t81) h8 fun _ h9 =>
Q (Value.bool true) h9))))))))) (
rd P h4 (binS .add 3 (.tmp 41) (.const (Value.int .i64 1)) t41 (Value.int .i64 1)) fun t83 =>
k12 [t83] h4)))) (
Q (Value.bool false) h3)))) fun K5 =>
okNil a1_h = true ∧ (
rd P h (Instr.fieldAt 118 a1_h 1) fun t17 =>
okNil a1_h = true ∧ (
rd P h (Instr.fieldAt 118 a1_h 1) fun t22 =>
rd P h (Instr.indexAt 91 t22 (Value.int .i64 1)) fun t23 =>
rd P h (Instr.loadAt 91 t17) fun t18 =>
rd P h (Instr.loadAt 3 t23) fun t24 =>
rd P h (Instr.build 91 #[(0, a2_l), (1, t24)]) fun t25 =>
rd P h (binS .eql 91 (.tmp 18) (.tmp 25) t18 t25) fun t26 =>
br t26 (
okNil a1_h = true ∧ (
rd P h (Instr.fieldAt 118 a1_h 1) fun t29 =>
rd P h (Instr.indexAt 91 t29 (Value.int .i64 1)) fun t30 =>
rd P h (Instr.loadAt 3 t30) fun t31 =>
K5 t31 h)) (
K5 t14 h))))
def an_watch_Watch_moved : Ann := { loops := [(7, [41], [6, 9, 42, 43, 44, 45, 46, 47, 48, 49, 50, 51, 52, 53, 54, 55, 56, 57, 58, 59, 60, 61, 62, 63, 64, 65, 66, 67, 68, 69, 70, 71, 72, 73, 74, 75, 76, 77, 78, 79, 80, 81, 82, 83])], draws := [(11, (.take 0 (.take 1 (.take 2 (.take 4 (.take 5 (.take 6 (.take 7 (.take 8 (.take 10 (.take 11 (.take 14 (.hold 3 false (.hold 9 false (.take 12 (.hold 13 false (.act 15 [13, 9, 3] (.act 16 [9, 3] (.take 17 (.act 18 [] .done)))))))))))))))))))), (2, (.take 0 (.take 1 (.hold 2 true (.take 4 (.take 5 (.take 6 (.hold 7 true (.hold 8 true (.hold 3 true (.hold 9 true (.hold 10 true (.hold 11 true .done)))))))))))))] }
noncomputable def c_watch_Watch_moved : Code := Go.Proofs.Try.f106.body.getD .skip
theorem eq_watch_Watch_moved (a0_w a1_h a2_l : Value) (h : Heap) (Q : Value → Heap → Prop) : t_watch_Watch_moved a0_w a1_h a2_l h Q = fnwp P an_watch_Watch_moved c_watch_Watch_moved Go.Proofs.Try.f106.results.toList [a0_w, a1_h, a2_l] h Q := by kernel_rfl
theorem en_watch_Watch_moved : Ent P F.watch_Watch_moved := Ent.of (fn := Go.Proofs.Try.f106) (c := c_watch_Watch_moved) (by kernel_rfl) (by kernel_rfl) (by kernel_rfl) (by kernel_rfl)
theorem ok_watch_Watch_moved {a0_w a1_h a2_l : Value} {h : Heap} {Q : Value → Heap → Prop} (hw : t_watch_Watch_moved a0_w a1_h a2_l h Q) : callF P F.watch_Watch_moved [a0_w, a1_h, a2_l] h Q :=
  fn_ok (A := an_watch_Watch_moved) (fn := Go.Proofs.Try.f106) (c := c_watch_Watch_moved) mixed (by kernel_rfl) (by kernel_rfl) (by kernel_rfl) (Eq.mp (eq_watch_Watch_moved a0_w a1_h a2_l h Q) hw)

/-- (*depot/watch.Watch).visit -/
def t_watch_Watch_visit (a0_w a1_l : Value) (h : Heap) (Q : Value → Heap → Prop) : Prop :=
callF P F.lits_Index [a1_l] h fun t13 h1 =>
okNil a0_w = true ∧ (
rd P h1 (Instr.fieldAt 65 a0_w 4) fun t16 =>
rd P h1 (Instr.loadAt 62 t16) fun t17 =>
rd P h1 (Instr.indexAt 62 t17 t13) fun t19 =>
rd P h1 (Instr.loadAt 63 t19) fun t20 =>
callF P F.slices_Clone_watch_held [t20] h1 fun t21 h2 =>
okNil a0_w = true ∧ (
rd P h2 (Instr.fieldAt 65 a0_w 4) fun t24 =>
rd P h2 (Instr.loadAt 62 t24) fun t25 =>
rd P h2 (Instr.indexAt 62 t25 t13) fun t27 =>
rd P h2 (Instr.loadAt 63 t27) fun t28 =>
sem P (Builtin.clear_ #[63] 0 #[t28]) h2 fun _ h3 =>
okNil a0_w = true ∧ (
rd P h3 (Instr.fieldAt 65 a0_w 4) fun t31 =>
rd P h3 (Instr.loadAt 62 t31) fun t32 =>
rd P h3 (Instr.indexAt 62 t32 t13) fun t34 =>
rd P h3 (Instr.loadAt 63 t34) fun t35 =>
rd P h3 (Instr.sliceAt 63 t35 none (some (Value.int .i64 0)) none) fun t36 =>
rd P h3 (Builtin.len_ #[63] 3 #[t21]) fun t38 =>
lp3 t36 (Value.bool true) (Value.int .i64 0) h3 fun k20 stay7_17 ok8_18 t39 g20 h4 =>
rd P h4 (binS .lss 3 (.tmp 39) (.tmp 38) t39 t38) fun t40 =>
br t40 (
jn (fun (stay7_22 : Value) (ok8_23 : Value) (h5 : Heap) =>
rd P h5 (binS .add 3 (.tmp 39) (.const (Value.int .i64 1)) t39 (Value.int .i64 1)) fun t79 =>
k20 [stay7_22, ok8_23, t79] h5) fun K24 =>
rd P h4 (Instr.indexAt 63 t21 t39) fun t41 =>
rd P h4 (Instr.loadAt 116 t41) fun t42 =>
gq (isB ok8_18 true) (fun k => k a0_w) fun t45 =>
gq (isB ok8_18 true) (fun k => k t42) fun t46 =>
gq (isB ok8_18 true) (fun k => k a1_l) fun t47 =>
gd (isB ok8_18 true) (fun h7 k => callF P F.watch_Watch_moved [t45, t46, t47] h7 k) h4 fun t48 h6 =>
∃ b32 : Bool, ok8_18 = .bool b32 ∧ (
br (cond b32 t48 (Value.bool false)) (
K24 stay7_17 ok8_18 h6) (
sem P (Instr.buildSlice 63 1 #[(0, t42)]) h6 fun t52 h8 =>
sem P (Builtin.append_ #[63, 63] 63 #[stay7_17, t52]) h8 fun t53 h9 =>
rd P h9 (Op.unary .not ok8_18) fun t55 =>
br t55 (
K24 t53 ok8_18 h9) (
okNil t42 = true ∧ (
rd P h9 (Instr.fieldAt 118 t42 1) fun t58 =>
rd P h9 (Instr.indexAt 91 t58 (Value.int .i64 0)) fun t59 =>
rd P h9 (Instr.loadAt 3 t59) fun t60 =>
jn (fun (other11_39 : Value) (h10 : Heap) =>
callF P F.watch_Watch_of [a0_w, other11_39] h10 fun t71 h11 =>
rd P h11 (binS .eql 68 (.tmp 71) (.const (Value.int .i8 (-1))) t71 (Value.int .i8 (-1))) fun t73 =>
br t73 (
K24 t53 (Value.bool false) h11) (
rd P h11 (binS .eql 68 (.tmp 71) (.const (Value.int .i8 0)) t71 (Value.int .i8 0)) fun t75 =>
br t75 (
callF P F.watch_Watch_put [a0_w, other11_39] h11 fun t78 h12 =>
K24 t53 ok8_18 h12) (
K24 t53 ok8_18 h11))) fun K40 =>
rd P h9 (binS .eql 3 (.tmp 61) (.tmp 62) t60 a1_l) fun t63 =>
br t63 (
okNil t42 = true ∧ (
rd P h9 (Instr.fieldAt 118 t42 1) fun t66 =>
rd P h9 (Instr.indexAt 91 t66 (Value.int .i64 1)) fun t67 =>
rd P h9 (Instr.loadAt 3 t67) fun t68 =>
K40 t68 h9)) (
K40 t60 h9)))))) (
okNil a0_w = true ∧ (
rd P h4 (Instr.fieldAt 65 a0_w 4) fun t82 =>
rd P h4 (Instr.loadAt 62 t82) fun t83 =>
rd P h4 (Instr.indexAt 62 t83 t13) fun t86 =>
sem P (Instr.storeAt 63 t86 stay7_17) h4 fun _ h13 =>
Q ok8_18 h13)))))
def an_watch_Watch_visit : Ann := { loops := [(7, [7, 8, 39], [10, 11, 40, 41, 42, 43, 44, 45, 46, 47, 48, 49, 50, 51, 52, 53, 54, 55, 56, 57, 58, 59, 60, 61, 62, 63, 64, 65, 66, 67, 68, 69, 70, 71, 72, 73, 74, 75, 76, 77, 78, 79])], draws := [] }
noncomputable def c_watch_Watch_visit : Code := Go.Proofs.Try.f74.body.getD .skip
theorem eq_watch_Watch_visit (a0_w a1_l : Value) (h : Heap) (Q : Value → Heap → Prop) : t_watch_Watch_visit a0_w a1_l h Q = fnwp P an_watch_Watch_visit c_watch_Watch_visit Go.Proofs.Try.f74.results.toList [a0_w, a1_l] h Q := by kernel_rfl
theorem en_watch_Watch_visit : Ent P F.watch_Watch_visit := Ent.of (fn := Go.Proofs.Try.f74) (c := c_watch_Watch_visit) (by kernel_rfl) (by kernel_rfl) (by kernel_rfl) (by kernel_rfl)
theorem ok_watch_Watch_visit {a0_w a1_l : Value} {h : Heap} {Q : Value → Heap → Prop} (hw : t_watch_Watch_visit a0_w a1_l h Q) : callF P F.watch_Watch_visit [a0_w, a1_l] h Q :=
  fn_ok (A := an_watch_Watch_visit) (fn := Go.Proofs.Try.f74) (c := c_watch_Watch_visit) mixed (by kernel_rfl) (by kernel_rfl) (by kernel_rfl) (Eq.mp (eq_watch_Watch_visit a0_w a1_l h Q) hw)

/-- (*depot/watch.Watch).look -/
def t_watch_Watch_look (a0_w a1_h : Value) (h : Heap) (Q : Value → Heap → Prop) : Prop :=
okNil a1_h = true ∧ (
rd P h (Instr.fieldAt 118 a1_h 0) fun t10 =>
rd P h (Instr.loadAt 28 t10) fun t11 =>
rd P h (Builtin.len_ #[28] 3 #[t11]) fun t12 =>
lp2 (Value.int .i64 0) (Value.int .i64 0) h fun k6 last5_4 t13 g6 h1 =>
rd P h1 (binS .lss 3 (.tmp 13) (.tmp 12) t13 t12) fun t14 =>
br t14 (
jn (fun (last5_8 : Value) (h2 : Heap) =>
rd P h2 (binS .add 3 (.tmp 13) (.const (Value.int .i64 1)) t13 (Value.int .i64 1)) fun t27 =>
k6 [last5_8, t27] h2) fun K9 =>
rd P h1 (Instr.indexAt 28 t11 t13) fun t15 =>
rd P h1 (Instr.loadAt 3 t15) fun t16 =>
callF P F.watch_Watch_of [a0_w, t16] h1 fun t19 h3 =>
rd P h3 (binS .eql 68 (.tmp 19) (.const (Value.int .i8 1)) t19 (Value.int .i8 1)) fun t21 =>
br t21 (
Q (Value.bool true) h3) (
rd P h3 (binS .eql 68 (.tmp 19) (.const (Value.int .i8 0)) t19 (Value.int .i8 0)) fun t23 =>
br t23 (
rd P h3 (binS .neq 3 (.tmp 24) (.const (Value.int .i64 0)) last5_4 (Value.int .i64 0)) fun t25 =>
br t25 (
Q (Value.bool true) h3) (
K9 t16 h3)) (
K9 last5_4 h3))) (
rd P h1 (binS .eql 3 (.tmp 28) (.const (Value.int .i64 0)) last5_4 (Value.int .i64 0)) fun t29 =>
br t29 (
Q (Value.bool false) h1) (
callF P F.watch_Watch_put [a0_w, last5_4] h1 fun t32 h4 =>
Q (Value.bool true) h4)))
def an_watch_Watch_look : Ann := { loops := [(3, [5, 13], [4, 7, 14, 15, 16, 17, 18, 19, 20, 21, 22, 23, 24, 25, 26, 27])], draws := [] }
noncomputable def c_watch_Watch_look : Code := Go.Proofs.Try.f75.body.getD .skip
theorem eq_watch_Watch_look (a0_w a1_h : Value) (h : Heap) (Q : Value → Heap → Prop) : t_watch_Watch_look a0_w a1_h h Q = fnwp P an_watch_Watch_look c_watch_Watch_look Go.Proofs.Try.f75.results.toList [a0_w, a1_h] h Q := by kernel_rfl
theorem en_watch_Watch_look : Ent P F.watch_Watch_look := Ent.of (fn := Go.Proofs.Try.f75) (c := c_watch_Watch_look) (by kernel_rfl) (by kernel_rfl) (by kernel_rfl) (by kernel_rfl)
theorem ok_watch_Watch_look {a0_w a1_h : Value} {h : Heap} {Q : Value → Heap → Prop} (hw : t_watch_Watch_look a0_w a1_h h Q) : callF P F.watch_Watch_look [a0_w, a1_h] h Q :=
  fn_ok (A := an_watch_Watch_look) (fn := Go.Proofs.Try.f75) (c := c_watch_Watch_look) mixed (by kernel_rfl) (by kernel_rfl) (by kernel_rfl) (Eq.mp (eq_watch_Watch_look a0_w a1_h h Q) hw)

/-- (*depot/watch.Watch).spread -/
def t_watch_Watch_spread (a0_w : Value) (h : Heap) (Q : Value → Heap → Prop) : Prop :=
lp0  h fun k1  g1 h1 =>
lp0  h1 fun k2  g2 h2 =>
okNil a0_w = true ∧ (
rd P h2 (Instr.fieldAt 65 a0_w 3) fun t9 =>
okNil a0_w = true ∧ (
rd P h2 (Instr.fieldAt 65 a0_w 1) fun t13 =>
rd P h2 (Instr.loadAt 3 t9) fun t10 =>
rd P h2 (Instr.loadAt 28 t13) fun t14 =>
rd P h2 (Builtin.len_ #[28] 3 #[t14]) fun t15 =>
rd P h2 (binS .lss 3 (.tmp 10) (.tmp 15) t10 t15) fun t16 =>
br t16 (
okNil a0_w = true ∧ (
rd P h2 (Instr.fieldAt 65 a0_w 1) fun t19 =>
okNil a0_w = true ∧ (
rd P h2 (Instr.fieldAt 65 a0_w 3) fun t23 =>
rd P h2 (Instr.loadAt 28 t19) fun t20 =>
rd P h2 (Instr.loadAt 3 t23) fun t24 =>
rd P h2 (Instr.indexAt 28 t20 t24) fun t25 =>
rd P h2 (Instr.loadAt 3 t25) fun t26 =>
okNil a0_w = true ∧ (
rd P h2 (Instr.fieldAt 65 a0_w 3) fun t29 =>
rd P h2 (Instr.loadAt 3 t29) fun t30 =>
rd P h2 (binS .add 3 (.tmp 30) (.const (Value.int .i64 1)) t30 (Value.int .i64 1)) fun t31 =>
okNil a0_w = true ∧ (
rd P h2 (Instr.fieldAt 65 a0_w 3) fun t33 =>
sem P (Instr.storeAt 3 t33 t31) h2 fun _ h3 =>
rd P h3 (Op.unary .neg t26) fun t36 =>
callF P F.watch_Watch_visit [a0_w, t36] h3 fun t37 h4 =>
rd P h4 (Op.unary .not t37) fun t38 =>
br t38 (
Q (Value.bool false) h4) (
k2 [] h4)))))) (
okNil a0_w = true ∧ (
rd P h2 (Instr.fieldAt 65 a0_w 1) fun t41 =>
rd P h2 (Instr.loadAt 28 t41) fun t42 =>
rd P h2 (Builtin.len_ #[28] 3 #[t42]) fun t43 =>
okNil a0_w = true ∧ (
rd P h2 (Instr.fieldAt 65 a0_w 5) fun t46 =>
rd P h2 (Instr.loadAt 63 t46) fun t47 =>
rd P h2 (Builtin.len_ #[63] 3 #[t47]) fun t48 =>
lp1 (Value.int .i64 0) h2 fun k29 t49 g29 h5 =>
rd P h5 (binS .lss 3 (.tmp 49) (.tmp 48) t49 t48) fun t50 =>
br t50 (
rd P h5 (Instr.indexAt 63 t47 t49) fun t51 =>
rd P h5 (Instr.loadAt 116 t51) fun t52 =>
callF P F.watch_Watch_look [a0_w, t52] h5 fun t55 h6 =>
rd P h6 (Op.unary .not t55) fun t56 =>
br t56 (
Q (Value.bool false) h6) (
rd P h6 (binS .add 3 (.tmp 49) (.const (Value.int .i64 1)) t49 (Value.int .i64 1)) fun t57 =>
k29 [t57] h6)) (
okNil a0_w = true ∧ (
rd P h5 (Instr.fieldAt 65 a0_w 1) fun t60 =>
rd P h5 (Instr.loadAt 28 t60) fun t61 =>
rd P h5 (Builtin.len_ #[28] 3 #[t61]) fun t62 =>
rd P h5 (binS .eql 3 (.tmp 62) (.tmp 63) t62 t43) fun t64 =>
br t64 (
Q (Value.bool true) h5) (
k1 [] h5))))))))
def an_watch_Watch_spread : Ann := { loops := [(1, [], [2, 3, 4, 6, 7, 8, 9, 10, 11, 12, 13, 14, 15, 16, 17, 18, 19, 20, 21, 22, 23, 24, 25, 26, 27, 28, 29, 30, 31, 32, 33, 34, 35, 36, 37, 38, 39, 40, 41, 42, 43, 44, 45, 46, 47, 48, 49, 50, 51, 52, 53, 54, 55, 56, 57, 58, 59, 60, 61, 62, 63, 64]), (1, [], [2, 3, 7, 8, 9, 10, 11, 12, 13, 14, 15, 16, 17, 18, 19, 20, 21, 22, 23, 24, 25, 26, 27, 28, 29, 30, 31, 32, 33, 34, 35, 36, 37, 38]), (8, [49], [2, 6, 50, 51, 52, 53, 54, 55, 56, 57])], draws := [(1, (.take 0 (.take 1 (.hold 2 true (.take 4 (.take 5 (.hold 6 true (.hold 3 true (.hold 7 true (.hold 8 true (.hold 9 true .done))))))))))), (2, (.take 0 (.take 1 (.hold 2 true (.take 4 (.take 5 (.hold 6 true (.hold 3 true (.hold 7 true (.hold 8 true (.hold 9 true (.take 10 .done))))))))))))] }
noncomputable def c_watch_Watch_spread : Code := Go.Proofs.Try.f38.body.getD .skip
theorem eq_watch_Watch_spread (a0_w : Value) (h : Heap) (Q : Value → Heap → Prop) : t_watch_Watch_spread a0_w h Q = fnwp P an_watch_Watch_spread c_watch_Watch_spread Go.Proofs.Try.f38.results.toList [a0_w] h Q := by kernel_rfl
theorem en_watch_Watch_spread : Ent P F.watch_Watch_spread := Ent.of (fn := Go.Proofs.Try.f38) (c := c_watch_Watch_spread) (by kernel_rfl) (by kernel_rfl) (by kernel_rfl) (by kernel_rfl)
theorem ok_watch_Watch_spread {a0_w : Value} {h : Heap} {Q : Value → Heap → Prop} (hw : t_watch_Watch_spread a0_w h Q) : callF P F.watch_Watch_spread [a0_w] h Q :=
  fn_ok (A := an_watch_Watch_spread) (fn := Go.Proofs.Try.f38) (c := c_watch_Watch_spread) mixed (by kernel_rfl) (by kernel_rfl) (by kernel_rfl) (Eq.mp (eq_watch_Watch_spread a0_w h Q) hw)

/-- (*depot/watch.Watch).tighten$1 -/
def t_watch_Watch_tighten_1 (a0_l a1 : Value) (h : Heap) (Q : Value → Heap → Prop) : Prop :=
rd P h (Instr.loadAt 30 a1) fun t4 =>
callF P F.watch_Watch_of [t4, a0_l] h fun t6 h1 =>
rd P h1 (binS .eql 68 (.tmp 6) (.const (Value.int .i8 1)) t6 (Value.int .i8 1)) fun t7 =>
Q t7 h1
def an_watch_Watch_tighten_1 : Ann := { loops := [], draws := [] }
noncomputable def c_watch_Watch_tighten_1 : Code := Go.Proofs.Try.f77.body.getD .skip
theorem eq_watch_Watch_tighten_1 (a0_l a1 : Value) (h : Heap) (Q : Value → Heap → Prop) : t_watch_Watch_tighten_1 a0_l a1 h Q = fnwp P an_watch_Watch_tighten_1 c_watch_Watch_tighten_1 Go.Proofs.Try.f77.results.toList [a0_l, a1] h Q := by kernel_rfl
theorem en_watch_Watch_tighten_1 : Ent P F.watch_Watch_tighten_1 := Ent.of (fn := Go.Proofs.Try.f77) (c := c_watch_Watch_tighten_1) (by kernel_rfl) (by kernel_rfl) (by kernel_rfl) (by kernel_rfl)
theorem ok_watch_Watch_tighten_1 {a0_l a1 : Value} {h : Heap} {Q : Value → Heap → Prop} (hw : t_watch_Watch_tighten_1 a0_l a1 h Q) : callF P F.watch_Watch_tighten_1 [a0_l, a1] h Q :=
  fn_ok (A := an_watch_Watch_tighten_1) (fn := Go.Proofs.Try.f77) (c := c_watch_Watch_tighten_1) mixed (by kernel_rfl) (by kernel_rfl) (by kernel_rfl) (Eq.mp (eq_watch_Watch_tighten_1 a0_l a1 h Q) hw)

/-- slices.IndexFunc[[]int,int] -/
def t_slices_IndexFunc_int (a0_s a1_f : Value) (h : Heap) (Q : Value → Heap → Prop) : Prop :=
rd P h (Builtin.len_ #[28] 3 #[a0_s]) fun t7 =>
lp1 (Value.int .i64 0) h fun k3 t8 g3 h1 =>
rd P h1 (binS .lss 3 (.tmp 8) (.tmp 7) t8 t7) fun t9 =>
br t9 (
rd P h1 (Instr.indexAt 28 a0_s t8) fun t14 =>
rd P h1 (Instr.loadAt 3 t14) fun t15 =>
callV P a1_f [t15] h1 fun t16 h2 =>
br t16 (
Q t8 h2) (
rd P h2 (binS .add 3 (.tmp 8) (.const (Value.int .i64 1)) t8 (Value.int .i64 1)) fun t18 =>
k3 [t18] h2)) (
Q (Value.int .i64 (-1)) h1)
def an_slices_IndexFunc_int : Ann := { loops := [(2, [8], [4, 5, 9, 10, 11, 12, 13, 14, 15, 16, 17, 18])], draws := [] }
noncomputable def c_slices_IndexFunc_int : Code := Go.Proofs.Try.f107.body.getD .skip
theorem eq_slices_IndexFunc_int (a0_s a1_f : Value) (h : Heap) (Q : Value → Heap → Prop) : t_slices_IndexFunc_int a0_s a1_f h Q = fnwp P an_slices_IndexFunc_int c_slices_IndexFunc_int Go.Proofs.Try.f107.results.toList [a0_s, a1_f] h Q := by kernel_rfl
theorem en_slices_IndexFunc_int : Ent P F.slices_IndexFunc_int := Ent.of (fn := Go.Proofs.Try.f107) (c := c_slices_IndexFunc_int) (by kernel_rfl) (by kernel_rfl) (by kernel_rfl) (by kernel_rfl)
theorem ok_slices_IndexFunc_int {a0_s a1_f : Value} {h : Heap} {Q : Value → Heap → Prop} (hw : t_slices_IndexFunc_int a0_s a1_f h Q) : callF P F.slices_IndexFunc_int [a0_s, a1_f] h Q :=
  fn_ok (A := an_slices_IndexFunc_int) (fn := Go.Proofs.Try.f107) (c := c_slices_IndexFunc_int) mixed (by kernel_rfl) (by kernel_rfl) (by kernel_rfl) (Eq.mp (eq_slices_IndexFunc_int a0_s a1_f h Q) hw)

/-- slices.ContainsFunc[[]int,int] -/
def t_slices_ContainsFunc_int (a0_s a1_f : Value) (h : Heap) (Q : Value → Heap → Prop) : Prop :=
callF P F.slices_IndexFunc_int [a0_s, a1_f] h fun t7 h1 =>
rd P h1 (binS .geq 3 (.tmp 7) (.const (Value.int .i64 0)) t7 (Value.int .i64 0)) fun t8 =>
Q t8 h1
def an_slices_ContainsFunc_int : Ann := { loops := [], draws := [] }
noncomputable def c_slices_ContainsFunc_int : Code := Go.Proofs.Try.f76.body.getD .skip
theorem eq_slices_ContainsFunc_int (a0_s a1_f : Value) (h : Heap) (Q : Value → Heap → Prop) : t_slices_ContainsFunc_int a0_s a1_f h Q = fnwp P an_slices_ContainsFunc_int c_slices_ContainsFunc_int Go.Proofs.Try.f76.results.toList [a0_s, a1_f] h Q := by kernel_rfl
theorem en_slices_ContainsFunc_int : Ent P F.slices_ContainsFunc_int := Ent.of (fn := Go.Proofs.Try.f76) (c := c_slices_ContainsFunc_int) (by kernel_rfl) (by kernel_rfl) (by kernel_rfl) (by kernel_rfl)
theorem ok_slices_ContainsFunc_int {a0_s a1_f : Value} {h : Heap} {Q : Value → Heap → Prop} (hw : t_slices_ContainsFunc_int a0_s a1_f h Q) : callF P F.slices_ContainsFunc_int [a0_s, a1_f] h Q :=
  fn_ok (A := an_slices_ContainsFunc_int) (fn := Go.Proofs.Try.f76) (c := c_slices_ContainsFunc_int) mixed (by kernel_rfl) (by kernel_rfl) (by kernel_rfl) (Eq.mp (eq_slices_ContainsFunc_int a0_s a1_f h Q) hw)

/-- (*depot/watch.Watch).tighten -/
def t_watch_Watch_tighten (a0_w : Value) (h : Heap) (Q : Value → Heap → Prop) : Prop :=
sem P (Instr.box 30 a0_w) h fun w1_1 h1 =>
rd P h1 (Instr.loadAt 30 w1_1) fun t4 =>
okNil t4 = true ∧ (
rd P h1 (Instr.fieldAt 65 t4 5) fun t6 =>
rd P h1 (Instr.loadAt 63 t6) fun t7 =>
rd P h1 (Builtin.len_ #[63] 3 #[t7]) fun t8 =>
lp1 (Value.int .i64 0) h1 fun k7 t9 g7 h2 =>
rd P h2 (binS .lss 3 (.tmp 9) (.tmp 8) t9 t8) fun t10 =>
br t10 (
jn (fun  (h3 : Heap) =>
rd P h3 (binS .add 3 (.tmp 9) (.const (Value.int .i64 1)) t9 (Value.int .i64 1)) fun t23 =>
k7 [t23] h3) fun K9 =>
rd P h2 (Instr.indexAt 63 t7 t9) fun t11 =>
rd P h2 (Instr.loadAt 116 t11) fun t12 =>
okNil t12 = true ∧ (
rd P h2 (Instr.fieldAt 118 t12 0) fun t15 =>
rd P h2 (Instr.loadAt 28 t15) fun t16 =>
rd P h2 (Instr.makeFunc (.func F.watch_Watch_tighten_1) #[] #[w1_1]) fun t17 =>
callF P F.slices_ContainsFunc_int [t16, t17] h2 fun t18 h4 =>
rd P h4 (Op.unary .not t18) fun t19 =>
br t19 (
rd P h4 (Instr.loadAt 30 w1_1) fun t20 =>
callF P F.watch_Watch_attach [t20, t12] h4 fun t22 h5 =>
K9  h5) (
K9  h4))) (
rd P h2 (Instr.loadAt 30 w1_1) fun t24 =>
okNil t24 = true ∧ (
rd P h2 (Instr.fieldAt 65 t24 5) fun t26 =>
sem P (Instr.storeAt 63 t26 (Value.slice none 0 0)) h2 fun _ h6 =>
Q (.tuple #[]) h6)))
def an_watch_Watch_tighten : Ann := { loops := [(2, [9], [3, 10, 11, 12, 13, 14, 15, 16, 17, 18, 19, 20, 21, 22, 23])], draws := [] }
noncomputable def c_watch_Watch_tighten : Code := Go.Proofs.Try.f40.body.getD .skip
theorem eq_watch_Watch_tighten (a0_w : Value) (h : Heap) (Q : Value → Heap → Prop) : t_watch_Watch_tighten a0_w h Q = fnwp P an_watch_Watch_tighten c_watch_Watch_tighten Go.Proofs.Try.f40.results.toList [a0_w] h Q := by kernel_rfl
theorem en_watch_Watch_tighten : Ent P F.watch_Watch_tighten := Ent.of (fn := Go.Proofs.Try.f40) (c := c_watch_Watch_tighten) (by kernel_rfl) (by kernel_rfl) (by kernel_rfl) (by kernel_rfl)
theorem ok_watch_Watch_tighten {a0_w : Value} {h : Heap} {Q : Value → Heap → Prop} (hw : t_watch_Watch_tighten a0_w h Q) : callF P F.watch_Watch_tighten [a0_w] h Q :=
  fn_ok (A := an_watch_Watch_tighten) (fn := Go.Proofs.Try.f40) (c := c_watch_Watch_tighten) mixed (by kernel_rfl) (by kernel_rfl) (by kernel_rfl) (Eq.mp (eq_watch_Watch_tighten a0_w h Q) hw)

/-- (*depot/watch.Watch).Run -/
def t_watch_Watch_Run (a0_w : Value) (h : Heap) (Q : Value → Heap → Prop) : Prop :=
okNil a0_w = true ∧ (
rd P h (Instr.fieldAt 65 a0_w 1) fun t8 =>
okNil a0_w = true ∧ (
rd P h (Instr.fieldAt 65 a0_w 3) fun t13 =>
rd P h (Instr.loadAt 28 t8) fun t9 =>
rd P h (Builtin.len_ #[28] 3 #[t9]) fun t10 =>
rd P h (Instr.loadAt 3 t13) fun t14 =>
callF P F.watch_Watch_spread [a0_w] h fun t16 h1 =>
jn (fun  (h2 : Heap) =>
jn (fun  (h3 : Heap) =>
rd P h3 (Op.unary .not t16) fun t38 =>
okNil a0_w = true ∧ (
rd P h3 (Instr.fieldAt 65 a0_w 6) fun t40 =>
sem P (Instr.storeAt 4 t40 t16) h3 fun _ h4 =>
okNil a0_w = true ∧ (
rd P h4 (Instr.fieldAt 65 a0_w 7) fun t42 =>
sem P (Instr.storeAt 4 t42 t38) h4 fun _ h5 =>
Q t16 h5))) fun K8 =>
gq (isB t16 true) (fun k => k a0_w) fun t28 =>
gd (isB t16 true) (fun h7 k => callF P F.watch_Watch_Depth [t28] h7 k) h2 fun t29 h6 =>
gq (isB t16 true) (fun k => rd P h6 (binS .eql 3 (.tmp 29) (.const (Value.int .i64 0)) t29 (Value.int .i64 0)) k) fun t30 =>
∃ b15 : Bool, t16 = .bool b15 ∧ (
br (cond b15 t30 (Value.bool false)) (
callF P F.watch_Watch_tighten [a0_w] h6 fun t33 h8 =>
K8  h8) (
K8  h6))) fun K7 =>
rd P h1 (Op.unary .not t16) fun t18 =>
br t18 (
callF P F.watch_Watch_cut [a0_w, t10] h1 fun t21 h9 =>
okNil a0_w = true ∧ (
rd P h9 (Instr.fieldAt 65 a0_w 3) fun t25 =>
sem P (Instr.storeAt 3 t25 t14) h9 fun _ h10 =>
K7  h10)) (
K7  h1)))
def an_watch_Watch_Run : Ann := { loops := [], draws := [(1, (.take 0 (.take 1 (.hold 2 true (.take 5 (.take 6 (.hold 7 true (.hold 3 true (.hold 4 true (.take 9 (.hold 8 true (.take 10 .done))))))))))))] }
noncomputable def c_watch_Watch_Run : Code := Go.Proofs.Try.f13.body.getD .skip
theorem eq_watch_Watch_Run (a0_w : Value) (h : Heap) (Q : Value → Heap → Prop) : t_watch_Watch_Run a0_w h Q = fnwp P an_watch_Watch_Run c_watch_Watch_Run Go.Proofs.Try.f13.results.toList [a0_w] h Q := by kernel_rfl
theorem en_watch_Watch_Run : Ent P F.watch_Watch_Run := Ent.of (fn := Go.Proofs.Try.f13) (c := c_watch_Watch_Run) (by kernel_rfl) (by kernel_rfl) (by kernel_rfl) (by kernel_rfl)
theorem ok_watch_Watch_Run {a0_w : Value} {h : Heap} {Q : Value → Heap → Prop} (hw : t_watch_Watch_Run a0_w h Q) : callF P F.watch_Watch_Run [a0_w] h Q :=
  fn_ok (A := an_watch_Watch_Run) (fn := Go.Proofs.Try.f13) (c := c_watch_Watch_Run) mixed (by kernel_rfl) (by kernel_rfl) (by kernel_rfl) (Eq.mp (eq_watch_Watch_Run a0_w h Q) hw)

/-- (*depot/watch.Watch).Lits -/
def t_watch_Watch_Lits (a0_w : Value) (h : Heap) (Q : Value → Heap → Prop) : Prop :=
okNil a0_w = true ∧ (
rd P h (Instr.fieldAt 65 a0_w 1) fun t5 =>
rd P h (Instr.loadAt 28 t5) fun t6 =>
callF P F.lits_Tidy [t6] h fun t7 h1 =>
Q t7 h1)
def an_watch_Watch_Lits : Ann := { loops := [], draws := [] }
noncomputable def c_watch_Watch_Lits : Code := Go.Proofs.Try.f14.body.getD .skip
theorem eq_watch_Watch_Lits (a0_w : Value) (h : Heap) (Q : Value → Heap → Prop) : t_watch_Watch_Lits a0_w h Q = fnwp P an_watch_Watch_Lits c_watch_Watch_Lits Go.Proofs.Try.f14.results.toList [a0_w] h Q := by kernel_rfl
theorem en_watch_Watch_Lits : Ent P F.watch_Watch_Lits := Ent.of (fn := Go.Proofs.Try.f14) (c := c_watch_Watch_Lits) (by kernel_rfl) (by kernel_rfl) (by kernel_rfl) (by kernel_rfl)
theorem ok_watch_Watch_Lits {a0_w : Value} {h : Heap} {Q : Value → Heap → Prop} (hw : t_watch_Watch_Lits a0_w h Q) : callF P F.watch_Watch_Lits [a0_w] h Q :=
  fn_ok (A := an_watch_Watch_Lits) (fn := Go.Proofs.Try.f14) (c := c_watch_Watch_Lits) mixed (by kernel_rfl) (by kernel_rfl) (by kernel_rfl) (Eq.mp (eq_watch_Watch_Lits a0_w h Q) hw)

/-- (*depot/watch.Watch).Clashes -/
def t_watch_Watch_Clashes (a0_w : Value) (h : Heap) (Q : Value → Heap → Prop) : Prop :=
okNil a0_w = true ∧ (
rd P h (Instr.fieldAt 65 a0_w 7) fun t5 =>
rd P h (Instr.loadAt 4 t5) fun t6 =>
Q t6 h)
def an_watch_Watch_Clashes : Ann := { loops := [], draws := [] }
noncomputable def c_watch_Watch_Clashes : Code := Go.Proofs.Try.f15.body.getD .skip
theorem eq_watch_Watch_Clashes (a0_w : Value) (h : Heap) (Q : Value → Heap → Prop) : t_watch_Watch_Clashes a0_w h Q = fnwp P an_watch_Watch_Clashes c_watch_Watch_Clashes Go.Proofs.Try.f15.results.toList [a0_w] h Q := by kernel_rfl
theorem en_watch_Watch_Clashes : Ent P F.watch_Watch_Clashes := Ent.of (fn := Go.Proofs.Try.f15) (c := c_watch_Watch_Clashes) (by kernel_rfl) (by kernel_rfl) (by kernel_rfl) (by kernel_rfl)
theorem ok_watch_Watch_Clashes {a0_w : Value} {h : Heap} {Q : Value → Heap → Prop} (hw : t_watch_Watch_Clashes a0_w h Q) : callF P F.watch_Watch_Clashes [a0_w] h Q :=
  fn_ok (A := an_watch_Watch_Clashes) (fn := Go.Proofs.Try.f15) (c := c_watch_Watch_Clashes) mixed (by kernel_rfl) (by kernel_rfl) (by kernel_rfl) (Eq.mp (eq_watch_Watch_Clashes a0_w h Q) hw)

/-- depot/depotlaw07.WatchFollows -/
def t_depotlaw07_WatchFollows (a0_f a1_m a2_steps : Value) (h : Heap) (Q : Value → Heap → Prop) : Prop :=
sem P (Instr.box 24 a0_f) h fun f3_1 h1 =>
rd P h1 (Instr.fieldAt 24 f3_1 0) fun t15 =>
rd P h1 (Instr.loadAt 3 t15) fun t16 =>
rd P h1 (Instr.build 24 #[(0, t16)]) fun t17 =>
sem P (Instr.alloc 24 true (.tuple #[])) h1 fun all7_5 h2 =>
sem P (Instr.storeAt 24 all7_5 t17) h2 fun _ h3 =>
lp1 (Value.int .i64 0) h3 fun k7 i8_6 g7 h4 =>
rd P h4 (Instr.fieldAt 24 f3_1 1) fun t19 =>
rd P h4 (Instr.loadAt 22 t19) fun t20 =>
rd P h4 (Builtin.len_ #[22] 3 #[t20]) fun t21 =>
rd P h4 (binS .lss 3 (.tmp 18) (.tmp 21) i8_6 t21) fun t22 =>
br t22 (
jn (fun  (h5 : Heap) =>
rd P h5 (binS .add 3 (.tmp 23) (.const (Value.int .i64 1)) i8_6 (Value.int .i64 1)) fun t24 =>
k7 [t24] h5) fun K12 =>
rd P h4 (Instr.fieldAt 24 f3_1 1) fun t26 =>
rd P h4 (Instr.loadAt 22 t26) fun t27 =>
rd P h4 (Instr.indexAt 22 t27 i8_6) fun t29 =>
rd P h4 (Instr.loadAt 28 t29) fun t30 =>
callF P F.depotlaw07_holds [a1_m, t30] h4 fun t31 h6 =>
br t31 (
qa P (Instr.fieldAt 24 all7_5 1) fun t32 =>
qa P (Instr.fieldAt 24 f3_1 1) fun t34 =>
∃ S21 : Heap → Prop, S21 h6 ∧ (
qs P S21 (Instr.loadAt 22 t32) fun t33 =>
∃ S23 : Heap → Prop, S23 h6 ∧ (
qs P S23 (Instr.loadAt 22 t34) fun t35 =>
qa P (Instr.indexAt 22 t35 i8_6) fun t37 =>
∃ S26 : Heap → Prop, S26 h6 ∧ (
qs P S26 (Instr.loadAt 28 t37) fun t38 =>
callF P F.depotref00_CopyInts [t38] h6 fun t39 h7 =>
S23 h7 ∧ S21 h7 ∧ (
sem P (Instr.buildSlice 22 1 #[(0, t39)]) h7 fun t40 h8 =>
S23 h8 ∧ S21 h8 ∧ (
sem P (Builtin.append_ #[22, 22] 22 #[t33, t40]) h8 fun t41 h9 =>
S23 h9 ∧ (
qa P (Instr.fieldAt 24 all7_5 1) fun t42 =>
sem P (Instr.storeAt 22 t42 t41) h9 fun _ h10 =>
K12  h10))))))) (
K12  h6)) (
rd P h4 (Instr.loadAt 24 all7_5) fun t44 =>
callF P F.watch_New [t44] h4 fun t45 h11 =>
rd P h11 (Instr.extract t45 0) fun t46 =>
rd P h11 (Instr.extract t45 1) fun t47 =>
rd P h11 (binS .neq 31 (.tmp 48) (.const (Value.int .i64 0)) t47 (Value.int .i64 0)) fun t49 =>
gq (isB t49 false) (fun k => k t46) fun t51 =>
gq (isB t49 false) (fun k => rd P h11 (binS .eql 30 (.tmp 51) (.const (Value.pointer none)) t51 (Value.pointer none)) k) fun t52 =>
∃ b39 : Bool, t49 = .bool b39 ∧ (
br (cond b39 (Value.bool true) t52) (
rd P h11 (binS .eql 31 (.tmp 54) (.const (Value.int .i64 1)) t47 (Value.int .i64 1)) fun t55 =>
gq (isB t55 true) (fun k => k t46) fun t57 =>
gq (isB t55 true) (fun k => rd P h11 (binS .eql 30 (.tmp 57) (.const (Value.pointer none)) t57 (Value.pointer none)) k) fun t58 =>
∃ b43 : Bool, t55 = .bool b43 ∧ (
Q (cond b43 t58 (Value.bool false)) h11)) (
lp1 (Value.int .i64 0) h11 fun k45 i11_44 g45 h12 =>
rd P h12 (Builtin.len_ #[26] 3 #[a2_steps]) fun t62 =>
rd P h12 (binS .lss 3 (.tmp 60) (.tmp 62) i11_44 t62) fun t63 =>
br t63 (
jn (fun  (h13 : Heap) =>
callF P F.watch_Watch_Run [t46] h13 fun t109 h14 =>
callF P F.watch_Watch_Lits [t46] h14 fun t111 h15 =>
rd P h15 (Op.unary .not t109) fun t113 =>
gq (isB t113 false) (fun k => k t46) fun t115 =>
gd (isB t113 false) (fun h17 k => callF P F.watch_Watch_Clashes [t115] h17 k) h15 fun t116 h16 =>
∃ b54 : Bool, t113 = .bool b54 ∧ (
br (cond b54 (Value.bool true) t116) (
Q (Value.bool false) h16) (
lp1 (Value.int .i64 0) h16 fun k56 k14_55 g56 h18 =>
rd P h18 (Builtin.len_ #[28] 3 #[t111]) fun t120 =>
rd P h18 (binS .lss 3 (.tmp 118) (.tmp 120) k14_55 t120) fun t121 =>
br t121 (
rd P h18 (Instr.indexAt 28 t111 k14_55) fun t127 =>
rd P h18 (Instr.loadAt 3 t127) fun t128 =>
callF P F.depotlaw07_truth [a1_m, t128] h18 fun t129 h19 =>
rd P h19 (Op.unary .not t129) fun t130 =>
br t130 (
Q (Value.bool false) h19) (
rd P h19 (binS .add 3 (.tmp 122) (.const (Value.int .i64 1)) k14_55 (Value.int .i64 1)) fun t123 =>
k56 [t123] h19)) (
rd P h18 (binS .add 3 (.tmp 64) (.const (Value.int .i64 1)) i11_44 (Value.int .i64 1)) fun t65 =>
k45 [t65] h18)))) fun K48 =>
rd P h12 (Instr.indexAt 26 a2_steps i11_44) fun t68 =>
rd P h12 (Instr.fieldAt 35 t68 0) fun t69 =>
rd P h12 (Instr.loadAt 3 t69) fun t70 =>
rd P h12 (binS .eql 3 (.tmp 70) (.const (Value.int .i64 1)) t70 (Value.int .i64 1)) fun t72 =>
br t72 (
rd P h12 (Instr.indexAt 26 a2_steps i11_44) fun t76 =>
rd P h12 (Instr.fieldAt 35 t76 3) fun t77 =>
rd P h12 (Instr.loadAt 28 t77) fun t78 =>
callF P F.depotlaw07_holds [a1_m, t78] h12 fun t79 h20 =>
br t79 (
rd P h20 (Instr.indexAt 26 a2_steps i11_44) fun t83 =>
rd P h20 (Instr.fieldAt 35 t83 3) fun t84 =>
rd P h20 (Instr.loadAt 28 t84) fun t85 =>
callF P F.depotref00_CopyInts [t85] h20 fun t86 h21 =>
callF P F.watch_Watch_Add [t46, t86] h21 fun t87 h22 =>
K48  h22) (
K48  h20)) (
rd P h12 (binS .eql 3 (.tmp 70) (.const (Value.int .i64 2)) t70 (Value.int .i64 2)) fun t89 =>
br t89 (
rd P h12 (Instr.indexAt 26 a2_steps i11_44) fun t93 =>
rd P h12 (Instr.fieldAt 35 t93 2) fun t94 =>
rd P h12 (Instr.loadAt 3 t94) fun t95 =>
callF P F.depotlaw07_truth [a1_m, t95] h12 fun t96 h23 =>
br t96 (
rd P h23 (Instr.indexAt 26 a2_steps i11_44) fun t100 =>
rd P h23 (Instr.fieldAt 35 t100 2) fun t101 =>
rd P h23 (Instr.loadAt 3 t101) fun t102 =>
callF P F.watch_Watch_Assume [t46, t102] h23 fun t103 h24 =>
K48  h24) (
K48  h23)) (
rd P h12 (binS .eql 3 (.tmp 70) (.const (Value.int .i64 4)) t70 (Value.int .i64 4)) fun t105 =>
br t105 (
callF P F.watch_Watch_Undo [t46] h12 fun t107 h25 =>
K48  h25) (
K48  h12)))) (
callF P F.watch_Watch_Run [t46] h12 fun t132 h26 =>
Q t132 h26))))
def an_depotlaw07_WatchFollows : Ann := { loops := [(3, [8], [18, 19, 20, 21, 22, 23, 24, 25, 26, 27, 28, 29, 30, 31, 32, 33, 34, 35, 36, 37, 38, 39, 40, 41, 42]), (11, [11], [6, 12, 13, 14, 60, 61, 62, 63, 64, 65, 66, 67, 68, 69, 70, 71, 72, 73, 74, 75, 76, 77, 78, 79, 80, 81, 82, 83, 84, 85, 86, 87, 88, 89, 90, 91, 92, 93, 94, 95, 96, 97, 98, 99, 100, 101, 102, 103, 104, 105, 106, 107, 108, 109, 110, 111, 112, 113, 114, 115, 116, 117, 118, 119, 120, 121, 122, 123, 124, 125, 126, 127, 128, 129, 130]), (27, [14], [6, 118, 119, 120, 121, 122, 123, 124, 125, 126, 127, 128, 129, 130])], draws := [(6, (.take 0 (.take 2 (.take 4 (.hold 1 false (.hold 3 false (.take 5 (.hold 6 false (.act 7 [3, 1] (.act 8 [3, 1] (.act 9 [3] (.take 10 (.act 11 [] .done)))))))))))))] }
noncomputable def c_depotlaw07_WatchFollows : Code := Go.Proofs.Try.f3.body.getD .skip
theorem eq_depotlaw07_WatchFollows (a0_f a1_m a2_steps : Value) (h : Heap) (Q : Value → Heap → Prop) : t_depotlaw07_WatchFollows a0_f a1_m a2_steps h Q = fnwp P an_depotlaw07_WatchFollows c_depotlaw07_WatchFollows Go.Proofs.Try.f3.results.toList [a0_f, a1_m, a2_steps] h Q := by kernel_rfl
theorem en_depotlaw07_WatchFollows : Ent P F.depotlaw07_WatchFollows := Ent.of (fn := Go.Proofs.Try.f3) (c := c_depotlaw07_WatchFollows) (by kernel_rfl) (by kernel_rfl) (by kernel_rfl) (by kernel_rfl)
theorem ok_depotlaw07_WatchFollows {a0_f a1_m a2_steps : Value} {h : Heap} {Q : Value → Heap → Prop} (hw : t_depotlaw07_WatchFollows a0_f a1_m a2_steps h Q) : callF P F.depotlaw07_WatchFollows [a0_f, a1_m, a2_steps] h Q :=
  fn_ok (A := an_depotlaw07_WatchFollows) (fn := Go.Proofs.Try.f3) (c := c_depotlaw07_WatchFollows) mixed (by kernel_rfl) (by kernel_rfl) (by kernel_rfl) (Eq.mp (eq_depotlaw07_WatchFollows a0_f a1_m a2_steps h Q) hw)
end Go.Proofs.Ytihbhklcnbdijaa
