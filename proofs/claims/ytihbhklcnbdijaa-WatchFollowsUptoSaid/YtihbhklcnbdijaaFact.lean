import Derived.Test.YtihbhklcnbdijaaBase
set_option linter.unusedVariables false
set_option linter.unusedSimpArgs false
namespace Go.Proofs.Ytihbhklcnbdijaa
open Go
/-- [0]*runtime.PanicNilError -/
abbrev T.Ar0_P_runtime_PanicNilError : TypeId := 195
theorem ti_Ar0_P_runtime_PanicNilError : TI P 195 [] 0 0 := TI.of (z := (.agg #[])) (by kernel_rfl) rfl
theorem ag_Ar0_P_runtime_PanicNilError : agN P 195 = some 0 := by kernel_rfl
theorem ar_Ar0_P_runtime_PanicNilError : arrN P 195 = some (0, 1) := by kernel_rfl
theorem ua_Ar0_P_runtime_PanicNilError : P.underlying 195 = some (.array 0 16) := by kernel_rfl
/-- [16]bool -/
abbrev T.Ar16_bool : TypeId := 154
theorem ti_Ar16_bool : TI P 154 [(.bool false), (.bool false), (.bool false), (.bool false), (.bool false), (.bool false), (.bool false), (.bool false), (.bool false), (.bool false), (.bool false), (.bool false), (.bool false), (.bool false), (.bool false), (.bool false)] 16 16 := TI.of (z := (.agg #[(.bool false), (.bool false), (.bool false), (.bool false), (.bool false), (.bool false), (.bool false), (.bool false), (.bool false), (.bool false), (.bool false), (.bool false), (.bool false), (.bool false), (.bool false), (.bool false)])) (by kernel_rfl) rfl
theorem ag_Ar16_bool : agN P 154 = some 16 := by kernel_rfl
theorem ar_Ar16_bool : arrN P 154 = some (16, 1) := by kernel_rfl
theorem ua_Ar16_bool : P.underlying 154 = some (.array 16 4) := by kernel_rfl
/-- [2]int -/
abbrev T.Ar2_int : TypeId := 91
theorem ti_Ar2_int : TI P 91 [(.int .i64 0), (.int .i64 0)] 2 16 := TI.of (z := (.agg #[(.int .i64 0), (.int .i64 0)])) (by kernel_rfl) rfl
theorem ag_Ar2_int : agN P 91 = some 2 := by kernel_rfl
theorem ar_Ar2_int : arrN P 91 = some (2, 1) := by kernel_rfl
theorem ua_Ar2_int : P.underlying 91 = some (.array 2 3) := by kernel_rfl
theorem bd_Ar2_int_0_1 {h : Heap} {k : Value → Prop} {v0 v1 : Value} (h0 : sc1 v0 = true) (h1 : sc1 v1 = true) : rd P h (Instr.build 91 #[(0, v0), (1, v1)]) k = k (.agg #[v0, v1]) := rd_blda ar_Ar2_int ti_Ar2_int (by simp [Instr.fill, sc1_cells h0, sc1_cells h1, cells_agg])
theorem qbd_Ar2_int_0_1 {k : Value → Prop} {v0 v1 : Value} (h0 : sc1 v0 = true) (h1 : sc1 v1 = true) : qa P (Instr.build 91 #[(0, v0), (1, v1)]) k = k (.agg #[v0, v1]) := qa_blda ar_Ar2_int ti_Ar2_int (by simp [Instr.fill, sc1_cells h0, sc1_cells h1, cells_agg])
/-- *[16]bool -/
abbrev T.P_Ar16_bool : TypeId := 156
theorem ti_P_Ar16_bool : TI P 156 [(.pointer none)] 1 8 := TI.of (z := (.pointer none)) (by kernel_rfl) rfl
theorem sc_P_Ar16_bool : scT P 156 = true := by kernel_rfl
theorem up_P_Ar16_bool : P.underlying 156 = some (.pointer 154) := by kernel_rfl
/-- *abi.Type -/
abbrev T.P_abi_Type : TypeId := 17
theorem ti_P_abi_Type : TI P 17 [(.pointer none)] 1 8 := TI.of (z := (.pointer none)) (by kernel_rfl) rfl
theorem sc_P_abi_Type : scT P 17 = true := by kernel_rfl
theorem up_P_abi_Type : P.underlying 17 = some (.pointer 205) := by kernel_rfl
/-- *arena.Arena -/
abbrev T.P_arena_Arena : TypeId := 75
theorem ti_P_arena_Arena : TI P 75 [(.pointer none)] 1 8 := TI.of (z := (.pointer none)) (by kernel_rfl) rfl
theorem sc_P_arena_Arena : scT P 75 = true := by kernel_rfl
theorem up_P_arena_Arena : P.underlying 75 = some (.pointer 129) := by kernel_rfl
/-- *engine.Engine -/
abbrev T.P_engine_Engine : TypeId := 43
theorem ti_P_engine_Engine : TI P 43 [(.pointer none)] 1 8 := TI.of (z := (.pointer none)) (by kernel_rfl) rfl
theorem sc_P_engine_Engine : scT P 43 = true := by kernel_rfl
theorem up_P_engine_Engine : P.underlying 43 = some (.pointer 87) := by kernel_rfl
/-- *engine.book -/
abbrev T.P_engine_book : TypeId := 78
theorem ti_P_engine_book : TI P 78 [(.pointer none)] 1 8 := TI.of (z := (.pointer none)) (by kernel_rfl) rfl
theorem sc_P_engine_book : scT P 78 = true := by kernel_rfl
theorem up_P_engine_book : P.underlying 78 = some (.pointer 81) := by kernel_rfl
/-- *engine.held -/
abbrev T.P_engine_held : TypeId := 90
theorem ti_P_engine_held : TI P 90 [(.pointer none)] 1 8 := TI.of (z := (.pointer none)) (by kernel_rfl) rfl
theorem sc_P_engine_held : scT P 90 = true := by kernel_rfl
theorem up_P_engine_held : P.underlying 90 = some (.pointer 93) := by kernel_rfl
/-- *int -/
abbrev T.P_int : TypeId := 186
theorem ti_P_int : TI P 186 [(.pointer none)] 1 8 := TI.of (z := (.pointer none)) (by kernel_rfl) rfl
theorem sc_P_int : scT P 186 = true := by kernel_rfl
theorem up_P_int : P.underlying 186 = some (.pointer 3) := by kernel_rfl
/-- *runtime.PanicNilError -/
abbrev T.P_runtime_PanicNilError : TypeId := 16
theorem ti_P_runtime_PanicNilError : TI P 16 [(.pointer none)] 1 8 := TI.of (z := (.pointer none)) (by kernel_rfl) rfl
theorem sc_P_runtime_PanicNilError : scT P 16 = true := by kernel_rfl
theorem up_P_runtime_PanicNilError : P.underlying 16 = some (.pointer 197) := by kernel_rfl
/-- *runtime.TypeAssertionError -/
abbrev T.P_runtime_TypeAssertionError : TypeId := 15
theorem ti_P_runtime_TypeAssertionError : TI P 15 [(.pointer none)] 1 8 := TI.of (z := (.pointer none)) (by kernel_rfl) rfl
theorem sc_P_runtime_TypeAssertionError : scT P 15 = true := by kernel_rfl
theorem up_P_runtime_TypeAssertionError : P.underlying 15 = some (.pointer 194) := by kernel_rfl
/-- *slices.xorshift -/
abbrev T.P_slices_xorshift : TypeId := 188
theorem ti_P_slices_xorshift : TI P 188 [(.pointer none)] 1 8 := TI.of (z := (.pointer none)) (by kernel_rfl) rfl
theorem sc_P_slices_xorshift : scT P 188 = true := by kernel_rfl
theorem up_P_slices_xorshift : P.underlying 188 = some (.pointer 182) := by kernel_rfl
/-- *trail.Trail -/
abbrev T.P_trail_Trail : TypeId := 72
theorem ti_P_trail_Trail : TI P 72 [(.pointer none)] 1 8 := TI.of (z := (.pointer none)) (by kernel_rfl) rfl
theorem sc_P_trail_Trail : scT P 72 = true := by kernel_rfl
theorem up_P_trail_Trail : P.underlying 72 = some (.pointer 125) := by kernel_rfl
/-- *uint8 -/
abbrev T.P_uint8 : TypeId := 201
theorem ti_P_uint8 : TI P 201 [(.pointer none)] 1 8 := TI.of (z := (.pointer none)) (by kernel_rfl) rfl
theorem sc_P_uint8 : scT P 201 = true := by kernel_rfl
theorem up_P_uint8 : P.underlying 201 = some (.pointer 5) := by kernel_rfl
/-- *watch.Watch -/
abbrev T.P_watch_Watch : TypeId := 30
theorem ti_P_watch_Watch : TI P 30 [(.pointer none)] 1 8 := TI.of (z := (.pointer none)) (by kernel_rfl) rfl
theorem sc_P_watch_Watch : scT P 30 = true := by kernel_rfl
theorem up_P_watch_Watch : P.underlying 30 = some (.pointer 65) := by kernel_rfl
/-- *watch.held -/
abbrev T.P_watch_held : TypeId := 116
theorem ti_P_watch_held : TI P 116 [(.pointer none)] 1 8 := TI.of (z := (.pointer none)) (by kernel_rfl) rfl
theorem sc_P_watch_held : scT P 116 = true := by kernel_rfl
theorem up_P_watch_held : P.underlying 116 = some (.pointer 118) := by kernel_rfl
/-- []*engine.held -/
abbrev T.Sl_P_engine_held : TypeId := 82
theorem ti_Sl_P_engine_held : TI P 82 [(.slice none 0 0)] 1 24 := TI.of (z := (.slice none 0 0)) (by kernel_rfl) rfl
theorem sc_Sl_P_engine_held : scT P 82 = true := by kernel_rfl
theorem sl_Sl_P_engine_held : SlT P 82 90 := by unfold SlT; kernel_rfl
theorem el_Sl_P_engine_held : elN P 82 = some 1 := by kernel_rfl
theorem ix_Sl_P_engine_held {h : Heap} {k : Value → Prop} {b o n c i : Nat} {ik : IntKind} (h1 : i < n) : rd P h (Instr.indexAt 82 (.slice (some ⟨b, o, none⟩) n c) (.int ik (i : Int))) k = k (.pointer (some ⟨b, o + i * 1, none⟩)) := rd_ixn el_Sl_P_engine_held h1
theorem qix_Sl_P_engine_held {k : Value → Prop} {b o n c i : Nat} {ik : IntKind} (h1 : i < n) : qa P (Instr.indexAt 82 (.slice (some ⟨b, o, none⟩) n c) (.int ik (i : Int))) k = k (.pointer (some ⟨b, o + i * 1, none⟩)) := qa_ixn el_Sl_P_engine_held h1
theorem qln_Sl_P_engine_held {ty : TypeId} {k : Value → Prop} {a : Option Addr} {n c : Nat} : qa P (Builtin.len_ #[82] ty #[.slice a n c]) k = k (.int .i64 n) := qa_len el_Sl_P_engine_held
theorem sn_Sl_P_engine_held {x y : Operand} {h : Heap} {k : Value → Prop} {a : Option Addr} {n c : Nat} : rd P h (binS .eql 82 x y (.slice a n c) (.slice none 0 0)) k = k (.bool a.isNone) := rd_slnil (by kernel_rfl)
theorem ln_Sl_P_engine_held {ty : TypeId} {h : Heap} {k : Value → Prop} {a : Option Addr} {n c : Nat} : rd P h (Builtin.len_ #[82] ty #[.slice a n c]) k = k (.int .i64 n) := rd_len el_Sl_P_engine_held
/-- []*watch.held -/
abbrev T.Sl_P_watch_held : TypeId := 63
theorem ti_Sl_P_watch_held : TI P 63 [(.slice none 0 0)] 1 24 := TI.of (z := (.slice none 0 0)) (by kernel_rfl) rfl
theorem sc_Sl_P_watch_held : scT P 63 = true := by kernel_rfl
theorem sl_Sl_P_watch_held : SlT P 63 116 := by unfold SlT; kernel_rfl
theorem el_Sl_P_watch_held : elN P 63 = some 1 := by kernel_rfl
theorem ix_Sl_P_watch_held {h : Heap} {k : Value → Prop} {b o n c i : Nat} {ik : IntKind} (h1 : i < n) : rd P h (Instr.indexAt 63 (.slice (some ⟨b, o, none⟩) n c) (.int ik (i : Int))) k = k (.pointer (some ⟨b, o + i * 1, none⟩)) := rd_ixn el_Sl_P_watch_held h1
theorem qix_Sl_P_watch_held {k : Value → Prop} {b o n c i : Nat} {ik : IntKind} (h1 : i < n) : qa P (Instr.indexAt 63 (.slice (some ⟨b, o, none⟩) n c) (.int ik (i : Int))) k = k (.pointer (some ⟨b, o + i * 1, none⟩)) := qa_ixn el_Sl_P_watch_held h1
theorem qln_Sl_P_watch_held {ty : TypeId} {k : Value → Prop} {a : Option Addr} {n c : Nat} : qa P (Builtin.len_ #[63] ty #[.slice a n c]) k = k (.int .i64 n) := qa_len el_Sl_P_watch_held
theorem sn_Sl_P_watch_held {x y : Operand} {h : Heap} {k : Value → Prop} {a : Option Addr} {n c : Nat} : rd P h (binS .eql 63 x y (.slice a n c) (.slice none 0 0)) k = k (.bool a.isNone) := rd_slnil (by kernel_rfl)
theorem ln_Sl_P_watch_held {ty : TypeId} {h : Heap} {k : Value → Prop} {a : Option Addr} {n c : Nat} : rd P h (Builtin.len_ #[63] ty #[.slice a n c]) k = k (.int .i64 n) := rd_len el_Sl_P_watch_held
/-- [][]*engine.held -/
abbrev T.Sl_Sl_P_engine_held : TypeId := 77
theorem ti_Sl_Sl_P_engine_held : TI P 77 [(.slice none 0 0)] 1 24 := TI.of (z := (.slice none 0 0)) (by kernel_rfl) rfl
theorem sc_Sl_Sl_P_engine_held : scT P 77 = true := by kernel_rfl
theorem sl_Sl_Sl_P_engine_held : SlT P 77 82 := by unfold SlT; kernel_rfl
theorem el_Sl_Sl_P_engine_held : elN P 77 = some 1 := by kernel_rfl
theorem ix_Sl_Sl_P_engine_held {h : Heap} {k : Value → Prop} {b o n c i : Nat} {ik : IntKind} (h1 : i < n) : rd P h (Instr.indexAt 77 (.slice (some ⟨b, o, none⟩) n c) (.int ik (i : Int))) k = k (.pointer (some ⟨b, o + i * 1, none⟩)) := rd_ixn el_Sl_Sl_P_engine_held h1
theorem qix_Sl_Sl_P_engine_held {k : Value → Prop} {b o n c i : Nat} {ik : IntKind} (h1 : i < n) : qa P (Instr.indexAt 77 (.slice (some ⟨b, o, none⟩) n c) (.int ik (i : Int))) k = k (.pointer (some ⟨b, o + i * 1, none⟩)) := qa_ixn el_Sl_Sl_P_engine_held h1
theorem qln_Sl_Sl_P_engine_held {ty : TypeId} {k : Value → Prop} {a : Option Addr} {n c : Nat} : qa P (Builtin.len_ #[77] ty #[.slice a n c]) k = k (.int .i64 n) := qa_len el_Sl_Sl_P_engine_held
theorem sn_Sl_Sl_P_engine_held {x y : Operand} {h : Heap} {k : Value → Prop} {a : Option Addr} {n c : Nat} : rd P h (binS .eql 77 x y (.slice a n c) (.slice none 0 0)) k = k (.bool a.isNone) := rd_slnil (by kernel_rfl)
theorem ln_Sl_Sl_P_engine_held {ty : TypeId} {h : Heap} {k : Value → Prop} {a : Option Addr} {n c : Nat} : rd P h (Builtin.len_ #[77] ty #[.slice a n c]) k = k (.int .i64 n) := rd_len el_Sl_Sl_P_engine_held
/-- [][]*watch.held -/
abbrev T.Sl_Sl_P_watch_held : TypeId := 62
theorem ti_Sl_Sl_P_watch_held : TI P 62 [(.slice none 0 0)] 1 24 := TI.of (z := (.slice none 0 0)) (by kernel_rfl) rfl
theorem sc_Sl_Sl_P_watch_held : scT P 62 = true := by kernel_rfl
theorem sl_Sl_Sl_P_watch_held : SlT P 62 63 := by unfold SlT; kernel_rfl
theorem el_Sl_Sl_P_watch_held : elN P 62 = some 1 := by kernel_rfl
theorem ix_Sl_Sl_P_watch_held {h : Heap} {k : Value → Prop} {b o n c i : Nat} {ik : IntKind} (h1 : i < n) : rd P h (Instr.indexAt 62 (.slice (some ⟨b, o, none⟩) n c) (.int ik (i : Int))) k = k (.pointer (some ⟨b, o + i * 1, none⟩)) := rd_ixn el_Sl_Sl_P_watch_held h1
theorem qix_Sl_Sl_P_watch_held {k : Value → Prop} {b o n c i : Nat} {ik : IntKind} (h1 : i < n) : qa P (Instr.indexAt 62 (.slice (some ⟨b, o, none⟩) n c) (.int ik (i : Int))) k = k (.pointer (some ⟨b, o + i * 1, none⟩)) := qa_ixn el_Sl_Sl_P_watch_held h1
theorem qln_Sl_Sl_P_watch_held {ty : TypeId} {k : Value → Prop} {a : Option Addr} {n c : Nat} : qa P (Builtin.len_ #[62] ty #[.slice a n c]) k = k (.int .i64 n) := qa_len el_Sl_Sl_P_watch_held
theorem sn_Sl_Sl_P_watch_held {x y : Operand} {h : Heap} {k : Value → Prop} {a : Option Addr} {n c : Nat} : rd P h (binS .eql 62 x y (.slice a n c) (.slice none 0 0)) k = k (.bool a.isNone) := rd_slnil (by kernel_rfl)
theorem ln_Sl_Sl_P_watch_held {ty : TypeId} {h : Heap} {k : Value → Prop} {a : Option Addr} {n c : Nat} : rd P h (Builtin.len_ #[62] ty #[.slice a n c]) k = k (.int .i64 n) := rd_len el_Sl_Sl_P_watch_held
/-- [][]int -/
abbrev T.Sl_Sl_int : TypeId := 22
theorem ti_Sl_Sl_int : TI P 22 [(.slice none 0 0)] 1 24 := TI.of (z := (.slice none 0 0)) (by kernel_rfl) rfl
theorem sc_Sl_Sl_int : scT P 22 = true := by kernel_rfl
theorem sl_Sl_Sl_int : SlT P 22 28 := by unfold SlT; kernel_rfl
theorem el_Sl_Sl_int : elN P 22 = some 1 := by kernel_rfl
theorem ix_Sl_Sl_int {h : Heap} {k : Value → Prop} {b o n c i : Nat} {ik : IntKind} (h1 : i < n) : rd P h (Instr.indexAt 22 (.slice (some ⟨b, o, none⟩) n c) (.int ik (i : Int))) k = k (.pointer (some ⟨b, o + i * 1, none⟩)) := rd_ixn el_Sl_Sl_int h1
theorem qix_Sl_Sl_int {k : Value → Prop} {b o n c i : Nat} {ik : IntKind} (h1 : i < n) : qa P (Instr.indexAt 22 (.slice (some ⟨b, o, none⟩) n c) (.int ik (i : Int))) k = k (.pointer (some ⟨b, o + i * 1, none⟩)) := qa_ixn el_Sl_Sl_int h1
theorem qln_Sl_Sl_int {ty : TypeId} {k : Value → Prop} {a : Option Addr} {n c : Nat} : qa P (Builtin.len_ #[22] ty #[.slice a n c]) k = k (.int .i64 n) := qa_len el_Sl_Sl_int
theorem sn_Sl_Sl_int {x y : Operand} {h : Heap} {k : Value → Prop} {a : Option Addr} {n c : Nat} : rd P h (binS .eql 22 x y (.slice a n c) (.slice none 0 0)) k = k (.bool a.isNone) := rd_slnil (by kernel_rfl)
theorem ln_Sl_Sl_int {ty : TypeId} {h : Heap} {k : Value → Prop} {a : Option Addr} {n c : Nat} : rd P h (Builtin.len_ #[22] ty #[.slice a n c]) k = k (.int .i64 n) := rd_len el_Sl_Sl_int
/-- []api.Entry -/
abbrev T.Sl_api_Entry : TypeId := 102
theorem ti_Sl_api_Entry : TI P 102 [(.slice none 0 0)] 1 24 := TI.of (z := (.slice none 0 0)) (by kernel_rfl) rfl
theorem sc_Sl_api_Entry : scT P 102 = true := by kernel_rfl
theorem sl_Sl_api_Entry : SlT P 102 142 := by unfold SlT; kernel_rfl
theorem el_Sl_api_Entry : elN P 102 = some 3 := by kernel_rfl
theorem ix_Sl_api_Entry {h : Heap} {k : Value → Prop} {b o n c i : Nat} {ik : IntKind} (h1 : i < n) : rd P h (Instr.indexAt 102 (.slice (some ⟨b, o, none⟩) n c) (.int ik (i : Int))) k = k (.pointer (some ⟨b, o + i * 3, none⟩)) := rd_ixn el_Sl_api_Entry h1
theorem qix_Sl_api_Entry {k : Value → Prop} {b o n c i : Nat} {ik : IntKind} (h1 : i < n) : qa P (Instr.indexAt 102 (.slice (some ⟨b, o, none⟩) n c) (.int ik (i : Int))) k = k (.pointer (some ⟨b, o + i * 3, none⟩)) := qa_ixn el_Sl_api_Entry h1
theorem qln_Sl_api_Entry {ty : TypeId} {k : Value → Prop} {a : Option Addr} {n c : Nat} : qa P (Builtin.len_ #[102] ty #[.slice a n c]) k = k (.int .i64 n) := qa_len el_Sl_api_Entry
theorem sn_Sl_api_Entry {x y : Operand} {h : Heap} {k : Value → Prop} {a : Option Addr} {n c : Nat} : rd P h (binS .eql 102 x y (.slice a n c) (.slice none 0 0)) k = k (.bool a.isNone) := rd_slnil (by kernel_rfl)
theorem ln_Sl_api_Entry {ty : TypeId} {h : Heap} {k : Value → Prop} {a : Option Addr} {n c : Nat} : rd P h (Builtin.len_ #[102] ty #[.slice a n c]) k = k (.int .i64 n) := rd_len el_Sl_api_Entry
/-- []api.Step -/
abbrev T.Sl_api_Step : TypeId := 79
theorem ti_Sl_api_Step : TI P 79 [(.slice none 0 0)] 1 24 := TI.of (z := (.slice none 0 0)) (by kernel_rfl) rfl
theorem sc_Sl_api_Step : scT P 79 = true := by kernel_rfl
theorem sl_Sl_api_Step : SlT P 79 101 := by unfold SlT; kernel_rfl
theorem el_Sl_api_Step : elN P 79 = some 2 := by kernel_rfl
theorem ix_Sl_api_Step {h : Heap} {k : Value → Prop} {b o n c i : Nat} {ik : IntKind} (h1 : i < n) : rd P h (Instr.indexAt 79 (.slice (some ⟨b, o, none⟩) n c) (.int ik (i : Int))) k = k (.pointer (some ⟨b, o + i * 2, none⟩)) := rd_ixn el_Sl_api_Step h1
theorem qix_Sl_api_Step {k : Value → Prop} {b o n c i : Nat} {ik : IntKind} (h1 : i < n) : qa P (Instr.indexAt 79 (.slice (some ⟨b, o, none⟩) n c) (.int ik (i : Int))) k = k (.pointer (some ⟨b, o + i * 2, none⟩)) := qa_ixn el_Sl_api_Step h1
theorem qln_Sl_api_Step {ty : TypeId} {k : Value → Prop} {a : Option Addr} {n c : Nat} : qa P (Builtin.len_ #[79] ty #[.slice a n c]) k = k (.int .i64 n) := qa_len el_Sl_api_Step
theorem sn_Sl_api_Step {x y : Operand} {h : Heap} {k : Value → Prop} {a : Option Addr} {n c : Nat} : rd P h (binS .eql 79 x y (.slice a n c) (.slice none 0 0)) k = k (.bool a.isNone) := rd_slnil (by kernel_rfl)
theorem ln_Sl_api_Step {ty : TypeId} {h : Heap} {k : Value → Prop} {a : Option Addr} {n c : Nat} : rd P h (Builtin.len_ #[79] ty #[.slice a n c]) k = k (.int .i64 n) := rd_len el_Sl_api_Step
/-- []arena.Ref -/
abbrev T.Sl_arena_Ref : TypeId := 127
theorem ti_Sl_arena_Ref : TI P 127 [(.slice none 0 0)] 1 24 := TI.of (z := (.slice none 0 0)) (by kernel_rfl) rfl
theorem sc_Sl_arena_Ref : scT P 127 = true := by kernel_rfl
theorem sl_Sl_arena_Ref : SlT P 127 85 := by unfold SlT; kernel_rfl
theorem el_Sl_arena_Ref : elN P 127 = some 1 := by kernel_rfl
theorem ix_Sl_arena_Ref {h : Heap} {k : Value → Prop} {b o n c i : Nat} {ik : IntKind} (h1 : i < n) : rd P h (Instr.indexAt 127 (.slice (some ⟨b, o, none⟩) n c) (.int ik (i : Int))) k = k (.pointer (some ⟨b, o + i * 1, none⟩)) := rd_ixn el_Sl_arena_Ref h1
theorem qix_Sl_arena_Ref {k : Value → Prop} {b o n c i : Nat} {ik : IntKind} (h1 : i < n) : qa P (Instr.indexAt 127 (.slice (some ⟨b, o, none⟩) n c) (.int ik (i : Int))) k = k (.pointer (some ⟨b, o + i * 1, none⟩)) := qa_ixn el_Sl_arena_Ref h1
theorem qln_Sl_arena_Ref {ty : TypeId} {k : Value → Prop} {a : Option Addr} {n c : Nat} : qa P (Builtin.len_ #[127] ty #[.slice a n c]) k = k (.int .i64 n) := qa_len el_Sl_arena_Ref
theorem sn_Sl_arena_Ref {x y : Operand} {h : Heap} {k : Value → Prop} {a : Option Addr} {n c : Nat} : rd P h (binS .eql 127 x y (.slice a n c) (.slice none 0 0)) k = k (.bool a.isNone) := rd_slnil (by kernel_rfl)
theorem ln_Sl_arena_Ref {ty : TypeId} {h : Heap} {k : Value → Prop} {a : Option Addr} {n c : Nat} : rd P h (Builtin.len_ #[127] ty #[.slice a n c]) k = k (.int .i64 n) := rd_len el_Sl_arena_Ref
/-- []bool -/
abbrev T.Sl_bool : TypeId := 25
theorem ti_Sl_bool : TI P 25 [(.slice none 0 0)] 1 24 := TI.of (z := (.slice none 0 0)) (by kernel_rfl) rfl
theorem sc_Sl_bool : scT P 25 = true := by kernel_rfl
theorem sl_Sl_bool : SlT P 25 4 := by unfold SlT; kernel_rfl
theorem el_Sl_bool : elN P 25 = some 1 := by kernel_rfl
theorem ix_Sl_bool {h : Heap} {k : Value → Prop} {b o n c i : Nat} {ik : IntKind} (h1 : i < n) : rd P h (Instr.indexAt 25 (.slice (some ⟨b, o, none⟩) n c) (.int ik (i : Int))) k = k (.pointer (some ⟨b, o + i * 1, none⟩)) := rd_ixn el_Sl_bool h1
theorem qix_Sl_bool {k : Value → Prop} {b o n c i : Nat} {ik : IntKind} (h1 : i < n) : qa P (Instr.indexAt 25 (.slice (some ⟨b, o, none⟩) n c) (.int ik (i : Int))) k = k (.pointer (some ⟨b, o + i * 1, none⟩)) := qa_ixn el_Sl_bool h1
theorem qln_Sl_bool {ty : TypeId} {k : Value → Prop} {a : Option Addr} {n c : Nat} : qa P (Builtin.len_ #[25] ty #[.slice a n c]) k = k (.int .i64 n) := qa_len el_Sl_bool
theorem sn_Sl_bool {x y : Operand} {h : Heap} {k : Value → Prop} {a : Option Addr} {n c : Nat} : rd P h (binS .eql 25 x y (.slice a n c) (.slice none 0 0)) k = k (.bool a.isNone) := rd_slnil (by kernel_rfl)
theorem ln_Sl_bool {ty : TypeId} {h : Heap} {k : Value → Prop} {a : Option Addr} {n c : Nat} : rd P h (Builtin.len_ #[25] ty #[.slice a n c]) k = k (.int .i64 n) := rd_len el_Sl_bool
/-- []depotlaw07.Op -/
abbrev T.Sl_depotlaw07_Op : TypeId := 26
theorem ti_Sl_depotlaw07_Op : TI P 26 [(.slice none 0 0)] 1 24 := TI.of (z := (.slice none 0 0)) (by kernel_rfl) rfl
theorem sc_Sl_depotlaw07_Op : scT P 26 = true := by kernel_rfl
theorem sl_Sl_depotlaw07_Op : SlT P 26 35 := by unfold SlT; kernel_rfl
theorem el_Sl_depotlaw07_Op : elN P 26 = some 4 := by kernel_rfl
theorem ix_Sl_depotlaw07_Op {h : Heap} {k : Value → Prop} {b o n c i : Nat} {ik : IntKind} (h1 : i < n) : rd P h (Instr.indexAt 26 (.slice (some ⟨b, o, none⟩) n c) (.int ik (i : Int))) k = k (.pointer (some ⟨b, o + i * 4, none⟩)) := rd_ixn el_Sl_depotlaw07_Op h1
theorem qix_Sl_depotlaw07_Op {k : Value → Prop} {b o n c i : Nat} {ik : IntKind} (h1 : i < n) : qa P (Instr.indexAt 26 (.slice (some ⟨b, o, none⟩) n c) (.int ik (i : Int))) k = k (.pointer (some ⟨b, o + i * 4, none⟩)) := qa_ixn el_Sl_depotlaw07_Op h1
theorem qln_Sl_depotlaw07_Op {ty : TypeId} {k : Value → Prop} {a : Option Addr} {n c : Nat} : qa P (Builtin.len_ #[26] ty #[.slice a n c]) k = k (.int .i64 n) := qa_len el_Sl_depotlaw07_Op
theorem sn_Sl_depotlaw07_Op {x y : Operand} {h : Heap} {k : Value → Prop} {a : Option Addr} {n c : Nat} : rd P h (binS .eql 26 x y (.slice a n c) (.slice none 0 0)) k = k (.bool a.isNone) := rd_slnil (by kernel_rfl)
theorem ln_Sl_depotlaw07_Op {ty : TypeId} {h : Heap} {k : Value → Prop} {a : Option Addr} {n c : Nat} : rd P h (Builtin.len_ #[26] ty #[.slice a n c]) k = k (.int .i64 n) := rd_len el_Sl_depotlaw07_Op
/-- []int -/
abbrev T.Sl_int : TypeId := 28
theorem ti_Sl_int : TI P 28 [(.slice none 0 0)] 1 24 := TI.of (z := (.slice none 0 0)) (by kernel_rfl) rfl
theorem sc_Sl_int : scT P 28 = true := by kernel_rfl
theorem sl_Sl_int : SlT P 28 3 := by unfold SlT; kernel_rfl
theorem el_Sl_int : elN P 28 = some 1 := by kernel_rfl
theorem ix_Sl_int {h : Heap} {k : Value → Prop} {b o n c i : Nat} {ik : IntKind} (h1 : i < n) : rd P h (Instr.indexAt 28 (.slice (some ⟨b, o, none⟩) n c) (.int ik (i : Int))) k = k (.pointer (some ⟨b, o + i * 1, none⟩)) := rd_ixn el_Sl_int h1
theorem qix_Sl_int {k : Value → Prop} {b o n c i : Nat} {ik : IntKind} (h1 : i < n) : qa P (Instr.indexAt 28 (.slice (some ⟨b, o, none⟩) n c) (.int ik (i : Int))) k = k (.pointer (some ⟨b, o + i * 1, none⟩)) := qa_ixn el_Sl_int h1
theorem qln_Sl_int {ty : TypeId} {k : Value → Prop} {a : Option Addr} {n c : Nat} : qa P (Builtin.len_ #[28] ty #[.slice a n c]) k = k (.int .i64 n) := qa_len el_Sl_int
theorem sn_Sl_int {x y : Operand} {h : Heap} {k : Value → Prop} {a : Option Addr} {n c : Nat} : rd P h (binS .eql 28 x y (.slice a n c) (.slice none 0 0)) k = k (.bool a.isNone) := rd_slnil (by kernel_rfl)
theorem ln_Sl_int {ty : TypeId} {h : Heap} {k : Value → Prop} {a : Option Addr} {n c : Nat} : rd P h (Builtin.len_ #[28] ty #[.slice a n c]) k = k (.int .i64 n) := rd_len el_Sl_int
/-- []int8 -/
abbrev T.Sl_int8 : TypeId := 61
theorem ti_Sl_int8 : TI P 61 [(.slice none 0 0)] 1 24 := TI.of (z := (.slice none 0 0)) (by kernel_rfl) rfl
theorem sc_Sl_int8 : scT P 61 = true := by kernel_rfl
theorem sl_Sl_int8 : SlT P 61 68 := by unfold SlT; kernel_rfl
theorem el_Sl_int8 : elN P 61 = some 1 := by kernel_rfl
theorem ix_Sl_int8 {h : Heap} {k : Value → Prop} {b o n c i : Nat} {ik : IntKind} (h1 : i < n) : rd P h (Instr.indexAt 61 (.slice (some ⟨b, o, none⟩) n c) (.int ik (i : Int))) k = k (.pointer (some ⟨b, o + i * 1, none⟩)) := rd_ixn el_Sl_int8 h1
theorem qix_Sl_int8 {k : Value → Prop} {b o n c i : Nat} {ik : IntKind} (h1 : i < n) : qa P (Instr.indexAt 61 (.slice (some ⟨b, o, none⟩) n c) (.int ik (i : Int))) k = k (.pointer (some ⟨b, o + i * 1, none⟩)) := qa_ixn el_Sl_int8 h1
theorem qln_Sl_int8 {ty : TypeId} {k : Value → Prop} {a : Option Addr} {n c : Nat} : qa P (Builtin.len_ #[61] ty #[.slice a n c]) k = k (.int .i64 n) := qa_len el_Sl_int8
theorem sn_Sl_int8 {x y : Operand} {h : Heap} {k : Value → Prop} {a : Option Addr} {n c : Nat} : rd P h (binS .eql 61 x y (.slice a n c) (.slice none 0 0)) k = k (.bool a.isNone) := rd_slnil (by kernel_rfl)
theorem ln_Sl_int8 {ty : TypeId} {h : Heap} {k : Value → Prop} {a : Option Addr} {n c : Nat} : rd P h (Builtin.len_ #[61] ty #[.slice a n c]) k = k (.int .i64 n) := rd_len el_Sl_int8
/-- []trail.level -/
abbrev T.Sl_trail_level : TypeId := 123
theorem ti_Sl_trail_level : TI P 123 [(.slice none 0 0)] 1 24 := TI.of (z := (.slice none 0 0)) (by kernel_rfl) rfl
theorem sc_Sl_trail_level : scT P 123 = true := by kernel_rfl
theorem sl_Sl_trail_level : SlT P 123 137 := by unfold SlT; kernel_rfl
theorem el_Sl_trail_level : elN P 123 = some 1 := by kernel_rfl
theorem ix_Sl_trail_level {h : Heap} {k : Value → Prop} {b o n c i : Nat} {ik : IntKind} (h1 : i < n) : rd P h (Instr.indexAt 123 (.slice (some ⟨b, o, none⟩) n c) (.int ik (i : Int))) k = k (.pointer (some ⟨b, o + i * 1, none⟩)) := rd_ixn el_Sl_trail_level h1
theorem qix_Sl_trail_level {k : Value → Prop} {b o n c i : Nat} {ik : IntKind} (h1 : i < n) : qa P (Instr.indexAt 123 (.slice (some ⟨b, o, none⟩) n c) (.int ik (i : Int))) k = k (.pointer (some ⟨b, o + i * 1, none⟩)) := qa_ixn el_Sl_trail_level h1
theorem qln_Sl_trail_level {ty : TypeId} {k : Value → Prop} {a : Option Addr} {n c : Nat} : qa P (Builtin.len_ #[123] ty #[.slice a n c]) k = k (.int .i64 n) := qa_len el_Sl_trail_level
theorem sn_Sl_trail_level {x y : Operand} {h : Heap} {k : Value → Prop} {a : Option Addr} {n c : Nat} : rd P h (binS .eql 123 x y (.slice a n c) (.slice none 0 0)) k = k (.bool a.isNone) := rd_slnil (by kernel_rfl)
theorem ln_Sl_trail_level {ty : TypeId} {h : Heap} {k : Value → Prop} {a : Option Addr} {n c : Nat} : rd P h (Builtin.len_ #[123] ty #[.slice a n c]) k = k (.int .i64 n) := rd_len el_Sl_trail_level
/-- []trail.told -/
abbrev T.Sl_trail_told : TypeId := 122
theorem ti_Sl_trail_told : TI P 122 [(.slice none 0 0)] 1 24 := TI.of (z := (.slice none 0 0)) (by kernel_rfl) rfl
theorem sc_Sl_trail_told : scT P 122 = true := by kernel_rfl
theorem sl_Sl_trail_told : SlT P 122 165 := by unfold SlT; kernel_rfl
theorem el_Sl_trail_told : elN P 122 = some 2 := by kernel_rfl
theorem ix_Sl_trail_told {h : Heap} {k : Value → Prop} {b o n c i : Nat} {ik : IntKind} (h1 : i < n) : rd P h (Instr.indexAt 122 (.slice (some ⟨b, o, none⟩) n c) (.int ik (i : Int))) k = k (.pointer (some ⟨b, o + i * 2, none⟩)) := rd_ixn el_Sl_trail_told h1
theorem qix_Sl_trail_told {k : Value → Prop} {b o n c i : Nat} {ik : IntKind} (h1 : i < n) : qa P (Instr.indexAt 122 (.slice (some ⟨b, o, none⟩) n c) (.int ik (i : Int))) k = k (.pointer (some ⟨b, o + i * 2, none⟩)) := qa_ixn el_Sl_trail_told h1
theorem qln_Sl_trail_told {ty : TypeId} {k : Value → Prop} {a : Option Addr} {n c : Nat} : qa P (Builtin.len_ #[122] ty #[.slice a n c]) k = k (.int .i64 n) := qa_len el_Sl_trail_told
theorem sn_Sl_trail_told {x y : Operand} {h : Heap} {k : Value → Prop} {a : Option Addr} {n c : Nat} : rd P h (binS .eql 122 x y (.slice a n c) (.slice none 0 0)) k = k (.bool a.isNone) := rd_slnil (by kernel_rfl)
theorem ln_Sl_trail_told {ty : TypeId} {h : Heap} {k : Value → Prop} {a : Option Addr} {n c : Nat} : rd P h (Builtin.len_ #[122] ty #[.slice a n c]) k = k (.int .i64 n) := rd_len el_Sl_trail_told
/-- abi.BoundsErrorCode -/
abbrev T.abi_BoundsErrorCode : TypeId := 6
theorem ti_abi_BoundsErrorCode : TI P 6 [(.int .u8 0)] 1 1 := TI.of (z := (.int .u8 0)) (by kernel_rfl) rfl
theorem sc_abi_BoundsErrorCode : scT P 6 = true := by kernel_rfl
/-- abi.Kind -/
abbrev T.abi_Kind : TypeId := 199
theorem ti_abi_Kind : TI P 199 [(.int .u8 0)] 1 1 := TI.of (z := (.int .u8 0)) (by kernel_rfl) rfl
theorem sc_abi_Kind : scT P 199 = true := by kernel_rfl
/-- abi.NameOff -/
abbrev T.abi_NameOff : TypeId := 202
theorem ti_abi_NameOff : TI P 202 [(.int .i32 0)] 1 4 := TI.of (z := (.int .i32 0)) (by kernel_rfl) rfl
theorem sc_abi_NameOff : scT P 202 = true := by kernel_rfl
/-- abi.TFlag -/
abbrev T.abi_TFlag : TypeId := 198
theorem ti_abi_TFlag : TI P 198 [(.int .u8 0)] 1 1 := TI.of (z := (.int .u8 0)) (by kernel_rfl) rfl
theorem sc_abi_TFlag : scT P 198 = true := by kernel_rfl
/-- abi.Type -/
abbrev T.abi_Type : TypeId := 205
theorem ti_abi_Type : TI P 205 [(.int .u64 0), (.int .u64 0), (.int .u32 0), (.int .u8 0), (.int .u8 0), (.int .u8 0), (.int .u8 0), .nilFunc, (.pointer none), (.int .i32 0), (.int .i32 0)] 11 48 := TI.of (z := (.agg #[(.int .u64 0), (.int .u64 0), (.int .u32 0), (.int .u8 0), (.int .u8 0), (.int .u8 0), (.int .u8 0), .nilFunc, (.pointer none), (.int .i32 0), (.int .i32 0)])) (by kernel_rfl) rfl
theorem ag_abi_Type : agN P 205 = some 11 := by kernel_rfl
theorem fa_abi_Type_Size_ {h : Heap} {k : Value → Prop} {b o : Nat} : rd P h (Instr.fieldAt 205 (.pointer (some ⟨b, o, none⟩)) 0) k = k (.pointer (some ⟨b, o + 0, none⟩)) := rd_fld (by kernel_rfl)
theorem qfa_abi_Type_Size_ {k : Value → Prop} {b o : Nat} : qa P (Instr.fieldAt 205 (.pointer (some ⟨b, o, none⟩)) 0) k = k (.pointer (some ⟨b, o + 0, none⟩)) := qa_fld (by kernel_rfl)
theorem fv_abi_Type_Size_ {h : Heap} {k : Value → Prop} {l : List Value} {v : Value} (hv : l[0]? = some v) : rd P h (Instr.field 205 (.agg ⟨l⟩) 0) k = k v := rd_fv (by kernel_rfl) hv
theorem ff_abi_Type_Size_ : fldOff P 205 0 = some 0 := by kernel_rfl
theorem fa_abi_Type_PtrBytes {h : Heap} {k : Value → Prop} {b o : Nat} : rd P h (Instr.fieldAt 205 (.pointer (some ⟨b, o, none⟩)) 1) k = k (.pointer (some ⟨b, o + 1, none⟩)) := rd_fld (by kernel_rfl)
theorem qfa_abi_Type_PtrBytes {k : Value → Prop} {b o : Nat} : qa P (Instr.fieldAt 205 (.pointer (some ⟨b, o, none⟩)) 1) k = k (.pointer (some ⟨b, o + 1, none⟩)) := qa_fld (by kernel_rfl)
theorem fv_abi_Type_PtrBytes {h : Heap} {k : Value → Prop} {l : List Value} {v : Value} (hv : l[1]? = some v) : rd P h (Instr.field 205 (.agg ⟨l⟩) 1) k = k v := rd_fv (by kernel_rfl) hv
theorem ff_abi_Type_PtrBytes : fldOff P 205 1 = some 1 := by kernel_rfl
theorem fa_abi_Type_Hash {h : Heap} {k : Value → Prop} {b o : Nat} : rd P h (Instr.fieldAt 205 (.pointer (some ⟨b, o, none⟩)) 2) k = k (.pointer (some ⟨b, o + 2, none⟩)) := rd_fld (by kernel_rfl)
theorem qfa_abi_Type_Hash {k : Value → Prop} {b o : Nat} : qa P (Instr.fieldAt 205 (.pointer (some ⟨b, o, none⟩)) 2) k = k (.pointer (some ⟨b, o + 2, none⟩)) := qa_fld (by kernel_rfl)
theorem fv_abi_Type_Hash {h : Heap} {k : Value → Prop} {l : List Value} {v : Value} (hv : l[2]? = some v) : rd P h (Instr.field 205 (.agg ⟨l⟩) 2) k = k v := rd_fv (by kernel_rfl) hv
theorem ff_abi_Type_Hash : fldOff P 205 2 = some 2 := by kernel_rfl
theorem fa_abi_Type_TFlag {h : Heap} {k : Value → Prop} {b o : Nat} : rd P h (Instr.fieldAt 205 (.pointer (some ⟨b, o, none⟩)) 3) k = k (.pointer (some ⟨b, o + 3, none⟩)) := rd_fld (by kernel_rfl)
theorem qfa_abi_Type_TFlag {k : Value → Prop} {b o : Nat} : qa P (Instr.fieldAt 205 (.pointer (some ⟨b, o, none⟩)) 3) k = k (.pointer (some ⟨b, o + 3, none⟩)) := qa_fld (by kernel_rfl)
theorem fv_abi_Type_TFlag {h : Heap} {k : Value → Prop} {l : List Value} {v : Value} (hv : l[3]? = some v) : rd P h (Instr.field 205 (.agg ⟨l⟩) 3) k = k v := rd_fv (by kernel_rfl) hv
theorem ff_abi_Type_TFlag : fldOff P 205 3 = some 3 := by kernel_rfl
theorem fa_abi_Type_Align_ {h : Heap} {k : Value → Prop} {b o : Nat} : rd P h (Instr.fieldAt 205 (.pointer (some ⟨b, o, none⟩)) 4) k = k (.pointer (some ⟨b, o + 4, none⟩)) := rd_fld (by kernel_rfl)
theorem qfa_abi_Type_Align_ {k : Value → Prop} {b o : Nat} : qa P (Instr.fieldAt 205 (.pointer (some ⟨b, o, none⟩)) 4) k = k (.pointer (some ⟨b, o + 4, none⟩)) := qa_fld (by kernel_rfl)
theorem fv_abi_Type_Align_ {h : Heap} {k : Value → Prop} {l : List Value} {v : Value} (hv : l[4]? = some v) : rd P h (Instr.field 205 (.agg ⟨l⟩) 4) k = k v := rd_fv (by kernel_rfl) hv
theorem ff_abi_Type_Align_ : fldOff P 205 4 = some 4 := by kernel_rfl
theorem fa_abi_Type_FieldAlign_ {h : Heap} {k : Value → Prop} {b o : Nat} : rd P h (Instr.fieldAt 205 (.pointer (some ⟨b, o, none⟩)) 5) k = k (.pointer (some ⟨b, o + 5, none⟩)) := rd_fld (by kernel_rfl)
theorem qfa_abi_Type_FieldAlign_ {k : Value → Prop} {b o : Nat} : qa P (Instr.fieldAt 205 (.pointer (some ⟨b, o, none⟩)) 5) k = k (.pointer (some ⟨b, o + 5, none⟩)) := qa_fld (by kernel_rfl)
theorem fv_abi_Type_FieldAlign_ {h : Heap} {k : Value → Prop} {l : List Value} {v : Value} (hv : l[5]? = some v) : rd P h (Instr.field 205 (.agg ⟨l⟩) 5) k = k v := rd_fv (by kernel_rfl) hv
theorem ff_abi_Type_FieldAlign_ : fldOff P 205 5 = some 5 := by kernel_rfl
theorem fa_abi_Type_Kind_ {h : Heap} {k : Value → Prop} {b o : Nat} : rd P h (Instr.fieldAt 205 (.pointer (some ⟨b, o, none⟩)) 6) k = k (.pointer (some ⟨b, o + 6, none⟩)) := rd_fld (by kernel_rfl)
theorem qfa_abi_Type_Kind_ {k : Value → Prop} {b o : Nat} : qa P (Instr.fieldAt 205 (.pointer (some ⟨b, o, none⟩)) 6) k = k (.pointer (some ⟨b, o + 6, none⟩)) := qa_fld (by kernel_rfl)
theorem fv_abi_Type_Kind_ {h : Heap} {k : Value → Prop} {l : List Value} {v : Value} (hv : l[6]? = some v) : rd P h (Instr.field 205 (.agg ⟨l⟩) 6) k = k v := rd_fv (by kernel_rfl) hv
theorem ff_abi_Type_Kind_ : fldOff P 205 6 = some 6 := by kernel_rfl
theorem fa_abi_Type_Equal {h : Heap} {k : Value → Prop} {b o : Nat} : rd P h (Instr.fieldAt 205 (.pointer (some ⟨b, o, none⟩)) 7) k = k (.pointer (some ⟨b, o + 7, none⟩)) := rd_fld (by kernel_rfl)
theorem qfa_abi_Type_Equal {k : Value → Prop} {b o : Nat} : qa P (Instr.fieldAt 205 (.pointer (some ⟨b, o, none⟩)) 7) k = k (.pointer (some ⟨b, o + 7, none⟩)) := qa_fld (by kernel_rfl)
theorem fv_abi_Type_Equal {h : Heap} {k : Value → Prop} {l : List Value} {v : Value} (hv : l[7]? = some v) : rd P h (Instr.field 205 (.agg ⟨l⟩) 7) k = k v := rd_fv (by kernel_rfl) hv
theorem ff_abi_Type_Equal : fldOff P 205 7 = some 7 := by kernel_rfl
theorem fa_abi_Type_GCData {h : Heap} {k : Value → Prop} {b o : Nat} : rd P h (Instr.fieldAt 205 (.pointer (some ⟨b, o, none⟩)) 8) k = k (.pointer (some ⟨b, o + 8, none⟩)) := rd_fld (by kernel_rfl)
theorem qfa_abi_Type_GCData {k : Value → Prop} {b o : Nat} : qa P (Instr.fieldAt 205 (.pointer (some ⟨b, o, none⟩)) 8) k = k (.pointer (some ⟨b, o + 8, none⟩)) := qa_fld (by kernel_rfl)
theorem fv_abi_Type_GCData {h : Heap} {k : Value → Prop} {l : List Value} {v : Value} (hv : l[8]? = some v) : rd P h (Instr.field 205 (.agg ⟨l⟩) 8) k = k v := rd_fv (by kernel_rfl) hv
theorem ff_abi_Type_GCData : fldOff P 205 8 = some 8 := by kernel_rfl
theorem fa_abi_Type_Str {h : Heap} {k : Value → Prop} {b o : Nat} : rd P h (Instr.fieldAt 205 (.pointer (some ⟨b, o, none⟩)) 9) k = k (.pointer (some ⟨b, o + 9, none⟩)) := rd_fld (by kernel_rfl)
theorem qfa_abi_Type_Str {k : Value → Prop} {b o : Nat} : qa P (Instr.fieldAt 205 (.pointer (some ⟨b, o, none⟩)) 9) k = k (.pointer (some ⟨b, o + 9, none⟩)) := qa_fld (by kernel_rfl)
theorem fv_abi_Type_Str {h : Heap} {k : Value → Prop} {l : List Value} {v : Value} (hv : l[9]? = some v) : rd P h (Instr.field 205 (.agg ⟨l⟩) 9) k = k v := rd_fv (by kernel_rfl) hv
theorem ff_abi_Type_Str : fldOff P 205 9 = some 9 := by kernel_rfl
theorem fa_abi_Type_PtrToThis {h : Heap} {k : Value → Prop} {b o : Nat} : rd P h (Instr.fieldAt 205 (.pointer (some ⟨b, o, none⟩)) 10) k = k (.pointer (some ⟨b, o + 10, none⟩)) := rd_fld (by kernel_rfl)
theorem qfa_abi_Type_PtrToThis {k : Value → Prop} {b o : Nat} : qa P (Instr.fieldAt 205 (.pointer (some ⟨b, o, none⟩)) 10) k = k (.pointer (some ⟨b, o + 10, none⟩)) := qa_fld (by kernel_rfl)
theorem fv_abi_Type_PtrToThis {h : Heap} {k : Value → Prop} {l : List Value} {v : Value} (hv : l[10]? = some v) : rd P h (Instr.field 205 (.agg ⟨l⟩) 10) k = k v := rd_fv (by kernel_rfl) hv
theorem ff_abi_Type_PtrToThis : fldOff P 205 10 = some 10 := by kernel_rfl
/-- abi.TypeOff -/
abbrev T.abi_TypeOff : TypeId := 203
theorem ti_abi_TypeOff : TI P 203 [(.int .i32 0)] 1 4 := TI.of (z := (.int .i32 0)) (by kernel_rfl) rfl
theorem sc_abi_TypeOff : scT P 203 = true := by kernel_rfl
/-- api.Entry -/
abbrev T.api_Entry : TypeId := 142
theorem ti_api_Entry : TI P 142 [(.int .i64 0), (.int .i64 0), (.slice none 0 0)] 3 40 := TI.of (z := (.agg #[(.int .i64 0), (.int .i64 0), (.slice none 0 0)])) (by kernel_rfl) rfl
theorem ag_api_Entry : agN P 142 = some 3 := by kernel_rfl
theorem bi_api_Entry : bldInfo P 142 = some (#[(.int .i64 0), (.int .i64 0), (.slice none 0 0)], #[(0, 1), (1, 1), (2, 1)]) := by kernel_rfl
theorem bd_api_Entry_0_1 {h : Heap} {k : Value → Prop} {v0 v1 : Value} (h0 : sc1 v0 = true) (h1 : sc1 v1 = true) : rd P h (Instr.build 142 #[(0, v0), (1, v1)]) k = k (.agg #[v0, v1, (.slice none 0 0)]) := rd_bld bi_api_Entry (by simp [Instr.fill, sc1_cells h0, sc1_cells h1, cells_agg])
theorem qbd_api_Entry_0_1 {k : Value → Prop} {v0 v1 : Value} (h0 : sc1 v0 = true) (h1 : sc1 v1 = true) : qa P (Instr.build 142 #[(0, v0), (1, v1)]) k = k (.agg #[v0, v1, (.slice none 0 0)]) := qa_bld bi_api_Entry (by simp [Instr.fill, sc1_cells h0, sc1_cells h1, cells_agg])
theorem fa_api_Entry_Lit {h : Heap} {k : Value → Prop} {b o : Nat} : rd P h (Instr.fieldAt 142 (.pointer (some ⟨b, o, none⟩)) 0) k = k (.pointer (some ⟨b, o + 0, none⟩)) := rd_fld (by kernel_rfl)
theorem qfa_api_Entry_Lit {k : Value → Prop} {b o : Nat} : qa P (Instr.fieldAt 142 (.pointer (some ⟨b, o, none⟩)) 0) k = k (.pointer (some ⟨b, o + 0, none⟩)) := qa_fld (by kernel_rfl)
theorem fv_api_Entry_Lit {h : Heap} {k : Value → Prop} {l : List Value} {v : Value} (hv : l[0]? = some v) : rd P h (Instr.field 142 (.agg ⟨l⟩) 0) k = k v := rd_fv (by kernel_rfl) hv
theorem ff_api_Entry_Lit : fldOff P 142 0 = some 0 := by kernel_rfl
theorem fa_api_Entry_Level {h : Heap} {k : Value → Prop} {b o : Nat} : rd P h (Instr.fieldAt 142 (.pointer (some ⟨b, o, none⟩)) 1) k = k (.pointer (some ⟨b, o + 1, none⟩)) := rd_fld (by kernel_rfl)
theorem qfa_api_Entry_Level {k : Value → Prop} {b o : Nat} : qa P (Instr.fieldAt 142 (.pointer (some ⟨b, o, none⟩)) 1) k = k (.pointer (some ⟨b, o + 1, none⟩)) := qa_fld (by kernel_rfl)
theorem fv_api_Entry_Level {h : Heap} {k : Value → Prop} {l : List Value} {v : Value} (hv : l[1]? = some v) : rd P h (Instr.field 142 (.agg ⟨l⟩) 1) k = k v := rd_fv (by kernel_rfl) hv
theorem ff_api_Entry_Level : fldOff P 142 1 = some 1 := by kernel_rfl
theorem fa_api_Entry_Reason {h : Heap} {k : Value → Prop} {b o : Nat} : rd P h (Instr.fieldAt 142 (.pointer (some ⟨b, o, none⟩)) 2) k = k (.pointer (some ⟨b, o + 2, none⟩)) := rd_fld (by kernel_rfl)
theorem qfa_api_Entry_Reason {k : Value → Prop} {b o : Nat} : qa P (Instr.fieldAt 142 (.pointer (some ⟨b, o, none⟩)) 2) k = k (.pointer (some ⟨b, o + 2, none⟩)) := qa_fld (by kernel_rfl)
theorem fv_api_Entry_Reason {h : Heap} {k : Value → Prop} {l : List Value} {v : Value} (hv : l[2]? = some v) : rd P h (Instr.field 142 (.agg ⟨l⟩) 2) k = k v := rd_fv (by kernel_rfl) hv
theorem ff_api_Entry_Reason : fldOff P 142 2 = some 2 := by kernel_rfl
/-- api.Errno -/
abbrev T.api_Errno : TypeId := 31
theorem ti_api_Errno : TI P 31 [(.int .i64 0)] 1 8 := TI.of (z := (.int .i64 0)) (by kernel_rfl) rfl
theorem sc_api_Errno : scT P 31 = true := by kernel_rfl
/-- api.Formula -/
abbrev T.api_Formula : TypeId := 24
theorem ti_api_Formula : TI P 24 [(.int .i64 0), (.slice none 0 0)] 2 32 := TI.of (z := (.agg #[(.int .i64 0), (.slice none 0 0)])) (by kernel_rfl) rfl
theorem ag_api_Formula : agN P 24 = some 2 := by kernel_rfl
theorem bi_api_Formula : bldInfo P 24 = some (#[(.int .i64 0), (.slice none 0 0)], #[(0, 1), (1, 1)]) := by kernel_rfl
theorem bd_api_Formula_0 {h : Heap} {k : Value → Prop} {v0 : Value} (h0 : sc1 v0 = true) : rd P h (Instr.build 24 #[(0, v0)]) k = k (.agg #[v0, (.slice none 0 0)]) := rd_bld bi_api_Formula (by simp [Instr.fill, sc1_cells h0, cells_agg])
theorem qbd_api_Formula_0 {k : Value → Prop} {v0 : Value} (h0 : sc1 v0 = true) : qa P (Instr.build 24 #[(0, v0)]) k = k (.agg #[v0, (.slice none 0 0)]) := qa_bld bi_api_Formula (by simp [Instr.fill, sc1_cells h0, cells_agg])
theorem bd_api_Formula_0_1 {h : Heap} {k : Value → Prop} {v0 v1 : Value} (h0 : sc1 v0 = true) (h1 : sc1 v1 = true) : rd P h (Instr.build 24 #[(0, v0), (1, v1)]) k = k (.agg #[v0, v1]) := rd_bld bi_api_Formula (by simp [Instr.fill, sc1_cells h0, sc1_cells h1, cells_agg])
theorem qbd_api_Formula_0_1 {k : Value → Prop} {v0 v1 : Value} (h0 : sc1 v0 = true) (h1 : sc1 v1 = true) : qa P (Instr.build 24 #[(0, v0), (1, v1)]) k = k (.agg #[v0, v1]) := qa_bld bi_api_Formula (by simp [Instr.fill, sc1_cells h0, sc1_cells h1, cells_agg])
theorem fa_api_Formula_Vars {h : Heap} {k : Value → Prop} {b o : Nat} : rd P h (Instr.fieldAt 24 (.pointer (some ⟨b, o, none⟩)) 0) k = k (.pointer (some ⟨b, o + 0, none⟩)) := rd_fld (by kernel_rfl)
theorem qfa_api_Formula_Vars {k : Value → Prop} {b o : Nat} : qa P (Instr.fieldAt 24 (.pointer (some ⟨b, o, none⟩)) 0) k = k (.pointer (some ⟨b, o + 0, none⟩)) := qa_fld (by kernel_rfl)
theorem fv_api_Formula_Vars {h : Heap} {k : Value → Prop} {l : List Value} {v : Value} (hv : l[0]? = some v) : rd P h (Instr.field 24 (.agg ⟨l⟩) 0) k = k v := rd_fv (by kernel_rfl) hv
theorem ff_api_Formula_Vars : fldOff P 24 0 = some 0 := by kernel_rfl
theorem fa_api_Formula_Clauses {h : Heap} {k : Value → Prop} {b o : Nat} : rd P h (Instr.fieldAt 24 (.pointer (some ⟨b, o, none⟩)) 1) k = k (.pointer (some ⟨b, o + 1, none⟩)) := rd_fld (by kernel_rfl)
theorem qfa_api_Formula_Clauses {k : Value → Prop} {b o : Nat} : qa P (Instr.fieldAt 24 (.pointer (some ⟨b, o, none⟩)) 1) k = k (.pointer (some ⟨b, o + 1, none⟩)) := qa_fld (by kernel_rfl)
theorem fv_api_Formula_Clauses {h : Heap} {k : Value → Prop} {l : List Value} {v : Value} (hv : l[1]? = some v) : rd P h (Instr.field 24 (.agg ⟨l⟩) 1) k = k v := rd_fv (by kernel_rfl) hv
theorem ff_api_Formula_Clauses : fldOff P 24 1 = some 1 := by kernel_rfl
/-- api.Step -/
abbrev T.api_Step : TypeId := 101
theorem ti_api_Step : TI P 101 [(.bool false), (.slice none 0 0)] 2 32 := TI.of (z := (.agg #[(.bool false), (.slice none 0 0)])) (by kernel_rfl) rfl
theorem ag_api_Step : agN P 101 = some 2 := by kernel_rfl
theorem bi_api_Step : bldInfo P 101 = some (#[(.bool false), (.slice none 0 0)], #[(0, 1), (1, 1)]) := by kernel_rfl
theorem bd_api_Step_ {h : Heap} {k : Value → Prop} : rd P h (Instr.build 101 #[]) k = k (.agg #[(.bool false), (.slice none 0 0)]) := rd_bld bi_api_Step (by simp [Instr.fill, cells_agg])
theorem qbd_api_Step_ {k : Value → Prop} : qa P (Instr.build 101 #[]) k = k (.agg #[(.bool false), (.slice none 0 0)]) := qa_bld bi_api_Step (by simp [Instr.fill, cells_agg])
theorem bd_api_Step_0_1 {h : Heap} {k : Value → Prop} {v0 v1 : Value} (h0 : sc1 v0 = true) (h1 : sc1 v1 = true) : rd P h (Instr.build 101 #[(0, v0), (1, v1)]) k = k (.agg #[v0, v1]) := rd_bld bi_api_Step (by simp [Instr.fill, sc1_cells h0, sc1_cells h1, cells_agg])
theorem qbd_api_Step_0_1 {k : Value → Prop} {v0 v1 : Value} (h0 : sc1 v0 = true) (h1 : sc1 v1 = true) : qa P (Instr.build 101 #[(0, v0), (1, v1)]) k = k (.agg #[v0, v1]) := qa_bld bi_api_Step (by simp [Instr.fill, sc1_cells h0, sc1_cells h1, cells_agg])
theorem bd_api_Step_1 {h : Heap} {k : Value → Prop} {v1 : Value} (h1 : sc1 v1 = true) : rd P h (Instr.build 101 #[(1, v1)]) k = k (.agg #[(.bool false), v1]) := rd_bld bi_api_Step (by simp [Instr.fill, sc1_cells h1, cells_agg])
theorem qbd_api_Step_1 {k : Value → Prop} {v1 : Value} (h1 : sc1 v1 = true) : qa P (Instr.build 101 #[(1, v1)]) k = k (.agg #[(.bool false), v1]) := qa_bld bi_api_Step (by simp [Instr.fill, sc1_cells h1, cells_agg])
theorem fa_api_Step_Drop {h : Heap} {k : Value → Prop} {b o : Nat} : rd P h (Instr.fieldAt 101 (.pointer (some ⟨b, o, none⟩)) 0) k = k (.pointer (some ⟨b, o + 0, none⟩)) := rd_fld (by kernel_rfl)
theorem qfa_api_Step_Drop {k : Value → Prop} {b o : Nat} : qa P (Instr.fieldAt 101 (.pointer (some ⟨b, o, none⟩)) 0) k = k (.pointer (some ⟨b, o + 0, none⟩)) := qa_fld (by kernel_rfl)
theorem fv_api_Step_Drop {h : Heap} {k : Value → Prop} {l : List Value} {v : Value} (hv : l[0]? = some v) : rd P h (Instr.field 101 (.agg ⟨l⟩) 0) k = k v := rd_fv (by kernel_rfl) hv
theorem ff_api_Step_Drop : fldOff P 101 0 = some 0 := by kernel_rfl
theorem fa_api_Step_Lits {h : Heap} {k : Value → Prop} {b o : Nat} : rd P h (Instr.fieldAt 101 (.pointer (some ⟨b, o, none⟩)) 1) k = k (.pointer (some ⟨b, o + 1, none⟩)) := rd_fld (by kernel_rfl)
theorem qfa_api_Step_Lits {k : Value → Prop} {b o : Nat} : qa P (Instr.fieldAt 101 (.pointer (some ⟨b, o, none⟩)) 1) k = k (.pointer (some ⟨b, o + 1, none⟩)) := qa_fld (by kernel_rfl)
theorem fv_api_Step_Lits {h : Heap} {k : Value → Prop} {l : List Value} {v : Value} (hv : l[1]? = some v) : rd P h (Instr.field 101 (.agg ⟨l⟩) 1) k = k v := rd_fv (by kernel_rfl) hv
theorem ff_api_Step_Lits : fldOff P 101 1 = some 1 := by kernel_rfl
/-- arena.Arena -/
abbrev T.arena_Arena : TypeId := 129
theorem ti_arena_Arena : TI P 129 [(.slice none 0 0), (.map none), (.slice none 0 0)] 3 56 := TI.of (z := (.agg #[(.slice none 0 0), (.map none), (.slice none 0 0)])) (by kernel_rfl) rfl
theorem ag_arena_Arena : agN P 129 = some 3 := by kernel_rfl
theorem bi_arena_Arena : bldInfo P 129 = some (#[(.slice none 0 0), (.map none), (.slice none 0 0)], #[(0, 1), (1, 1), (2, 1)]) := by kernel_rfl
theorem bd_arena_Arena_1 {h : Heap} {k : Value → Prop} {v1 : Value} (h1 : sc1 v1 = true) : rd P h (Instr.build 129 #[(1, v1)]) k = k (.agg #[(.slice none 0 0), v1, (.slice none 0 0)]) := rd_bld bi_arena_Arena (by simp [Instr.fill, sc1_cells h1, cells_agg])
theorem qbd_arena_Arena_1 {k : Value → Prop} {v1 : Value} (h1 : sc1 v1 = true) : qa P (Instr.build 129 #[(1, v1)]) k = k (.agg #[(.slice none 0 0), v1, (.slice none 0 0)]) := qa_bld bi_arena_Arena (by simp [Instr.fill, sc1_cells h1, cells_agg])
theorem fa_arena_Arena_words {h : Heap} {k : Value → Prop} {b o : Nat} : rd P h (Instr.fieldAt 129 (.pointer (some ⟨b, o, none⟩)) 0) k = k (.pointer (some ⟨b, o + 0, none⟩)) := rd_fld (by kernel_rfl)
theorem qfa_arena_Arena_words {k : Value → Prop} {b o : Nat} : qa P (Instr.fieldAt 129 (.pointer (some ⟨b, o, none⟩)) 0) k = k (.pointer (some ⟨b, o + 0, none⟩)) := qa_fld (by kernel_rfl)
theorem fv_arena_Arena_words {h : Heap} {k : Value → Prop} {l : List Value} {v : Value} (hv : l[0]? = some v) : rd P h (Instr.field 129 (.agg ⟨l⟩) 0) k = k v := rd_fv (by kernel_rfl) hv
theorem ff_arena_Arena_words : fldOff P 129 0 = some 0 := by kernel_rfl
theorem fa_arena_Arena_marks {h : Heap} {k : Value → Prop} {b o : Nat} : rd P h (Instr.fieldAt 129 (.pointer (some ⟨b, o, none⟩)) 1) k = k (.pointer (some ⟨b, o + 1, none⟩)) := rd_fld (by kernel_rfl)
theorem qfa_arena_Arena_marks {k : Value → Prop} {b o : Nat} : qa P (Instr.fieldAt 129 (.pointer (some ⟨b, o, none⟩)) 1) k = k (.pointer (some ⟨b, o + 1, none⟩)) := qa_fld (by kernel_rfl)
theorem fv_arena_Arena_marks {h : Heap} {k : Value → Prop} {l : List Value} {v : Value} (hv : l[1]? = some v) : rd P h (Instr.field 129 (.agg ⟨l⟩) 1) k = k v := rd_fv (by kernel_rfl) hv
theorem ff_arena_Arena_marks : fldOff P 129 1 = some 1 := by kernel_rfl
theorem fa_arena_Arena_order {h : Heap} {k : Value → Prop} {b o : Nat} : rd P h (Instr.fieldAt 129 (.pointer (some ⟨b, o, none⟩)) 2) k = k (.pointer (some ⟨b, o + 2, none⟩)) := rd_fld (by kernel_rfl)
theorem qfa_arena_Arena_order {k : Value → Prop} {b o : Nat} : qa P (Instr.fieldAt 129 (.pointer (some ⟨b, o, none⟩)) 2) k = k (.pointer (some ⟨b, o + 2, none⟩)) := qa_fld (by kernel_rfl)
theorem fv_arena_Arena_order {h : Heap} {k : Value → Prop} {l : List Value} {v : Value} (hv : l[2]? = some v) : rd P h (Instr.field 129 (.agg ⟨l⟩) 2) k = k v := rd_fv (by kernel_rfl) hv
theorem ff_arena_Arena_order : fldOff P 129 2 = some 2 := by kernel_rfl
/-- arena.Ref -/
abbrev T.arena_Ref : TypeId := 85
theorem ti_arena_Ref : TI P 85 [(.int .i64 0)] 1 8 := TI.of (z := (.int .i64 0)) (by kernel_rfl) rfl
theorem sc_arena_Ref : scT P 85 = true := by kernel_rfl
/-- arena.mark -/
abbrev T.arena_mark : TypeId := 131
theorem ti_arena_mark : TI P 131 [(.bool false)] 1 1 := TI.of (z := (.agg #[(.bool false)])) (by kernel_rfl) rfl
theorem ag_arena_mark : agN P 131 = some 1 := by kernel_rfl
theorem bi_arena_mark : bldInfo P 131 = some (#[(.bool false)], #[(0, 1)]) := by kernel_rfl
theorem bd_arena_mark_0 {h : Heap} {k : Value → Prop} {v0 : Value} (h0 : sc1 v0 = true) : rd P h (Instr.build 131 #[(0, v0)]) k = k (.agg #[v0]) := rd_bld bi_arena_mark (by simp [Instr.fill, sc1_cells h0, cells_agg])
theorem qbd_arena_mark_0 {k : Value → Prop} {v0 : Value} (h0 : sc1 v0 = true) : qa P (Instr.build 131 #[(0, v0)]) k = k (.agg #[v0]) := qa_bld bi_arena_mark (by simp [Instr.fill, sc1_cells h0, cells_agg])
theorem fa_arena_mark_learnt {h : Heap} {k : Value → Prop} {b o : Nat} : rd P h (Instr.fieldAt 131 (.pointer (some ⟨b, o, none⟩)) 0) k = k (.pointer (some ⟨b, o + 0, none⟩)) := rd_fld (by kernel_rfl)
theorem qfa_arena_mark_learnt {k : Value → Prop} {b o : Nat} : qa P (Instr.fieldAt 131 (.pointer (some ⟨b, o, none⟩)) 0) k = k (.pointer (some ⟨b, o + 0, none⟩)) := qa_fld (by kernel_rfl)
theorem fv_arena_mark_learnt {h : Heap} {k : Value → Prop} {l : List Value} {v : Value} (hv : l[0]? = some v) : rd P h (Instr.field 131 (.agg ⟨l⟩) 0) k = k v := rd_fv (by kernel_rfl) hv
theorem ff_arena_mark_learnt : fldOff P 131 0 = some 0 := by kernel_rfl
/-- bool -/
abbrev T.bool : TypeId := 4
theorem ti_bool : TI P 4 [(.bool false)] 1 1 := TI.of (z := (.bool false)) (by kernel_rfl) rfl
theorem sc_bool : scT P 4 = true := by kernel_rfl
theorem ub_bool : P.underlying 4 = some .bool := by kernel_rfl
/-- depotlaw07.Op -/
abbrev T.depotlaw07_Op : TypeId := 35
theorem ti_depotlaw07_Op : TI P 35 [(.int .i64 0), (.int .i64 0), (.int .i64 0), (.slice none 0 0)] 4 48 := TI.of (z := (.agg #[(.int .i64 0), (.int .i64 0), (.int .i64 0), (.slice none 0 0)])) (by kernel_rfl) rfl
theorem ag_depotlaw07_Op : agN P 35 = some 4 := by kernel_rfl
theorem fa_depotlaw07_Op_Kind {h : Heap} {k : Value → Prop} {b o : Nat} : rd P h (Instr.fieldAt 35 (.pointer (some ⟨b, o, none⟩)) 0) k = k (.pointer (some ⟨b, o + 0, none⟩)) := rd_fld (by kernel_rfl)
theorem qfa_depotlaw07_Op_Kind {k : Value → Prop} {b o : Nat} : qa P (Instr.fieldAt 35 (.pointer (some ⟨b, o, none⟩)) 0) k = k (.pointer (some ⟨b, o + 0, none⟩)) := qa_fld (by kernel_rfl)
theorem fv_depotlaw07_Op_Kind {h : Heap} {k : Value → Prop} {l : List Value} {v : Value} (hv : l[0]? = some v) : rd P h (Instr.field 35 (.agg ⟨l⟩) 0) k = k v := rd_fv (by kernel_rfl) hv
theorem ff_depotlaw07_Op_Kind : fldOff P 35 0 = some 0 := by kernel_rfl
theorem fa_depotlaw07_Op_Which {h : Heap} {k : Value → Prop} {b o : Nat} : rd P h (Instr.fieldAt 35 (.pointer (some ⟨b, o, none⟩)) 1) k = k (.pointer (some ⟨b, o + 1, none⟩)) := rd_fld (by kernel_rfl)
theorem qfa_depotlaw07_Op_Which {k : Value → Prop} {b o : Nat} : qa P (Instr.fieldAt 35 (.pointer (some ⟨b, o, none⟩)) 1) k = k (.pointer (some ⟨b, o + 1, none⟩)) := qa_fld (by kernel_rfl)
theorem fv_depotlaw07_Op_Which {h : Heap} {k : Value → Prop} {l : List Value} {v : Value} (hv : l[1]? = some v) : rd P h (Instr.field 35 (.agg ⟨l⟩) 1) k = k v := rd_fv (by kernel_rfl) hv
theorem ff_depotlaw07_Op_Which : fldOff P 35 1 = some 1 := by kernel_rfl
theorem fa_depotlaw07_Op_Lit {h : Heap} {k : Value → Prop} {b o : Nat} : rd P h (Instr.fieldAt 35 (.pointer (some ⟨b, o, none⟩)) 2) k = k (.pointer (some ⟨b, o + 2, none⟩)) := rd_fld (by kernel_rfl)
theorem qfa_depotlaw07_Op_Lit {k : Value → Prop} {b o : Nat} : qa P (Instr.fieldAt 35 (.pointer (some ⟨b, o, none⟩)) 2) k = k (.pointer (some ⟨b, o + 2, none⟩)) := qa_fld (by kernel_rfl)
theorem fv_depotlaw07_Op_Lit {h : Heap} {k : Value → Prop} {l : List Value} {v : Value} (hv : l[2]? = some v) : rd P h (Instr.field 35 (.agg ⟨l⟩) 2) k = k v := rd_fv (by kernel_rfl) hv
theorem ff_depotlaw07_Op_Lit : fldOff P 35 2 = some 2 := by kernel_rfl
theorem fa_depotlaw07_Op_Lits {h : Heap} {k : Value → Prop} {b o : Nat} : rd P h (Instr.fieldAt 35 (.pointer (some ⟨b, o, none⟩)) 3) k = k (.pointer (some ⟨b, o + 3, none⟩)) := rd_fld (by kernel_rfl)
theorem qfa_depotlaw07_Op_Lits {k : Value → Prop} {b o : Nat} : qa P (Instr.fieldAt 35 (.pointer (some ⟨b, o, none⟩)) 3) k = k (.pointer (some ⟨b, o + 3, none⟩)) := qa_fld (by kernel_rfl)
theorem fv_depotlaw07_Op_Lits {h : Heap} {k : Value → Prop} {l : List Value} {v : Value} (hv : l[3]? = some v) : rd P h (Instr.field 35 (.agg ⟨l⟩) 3) k = k v := rd_fv (by kernel_rfl) hv
theorem ff_depotlaw07_Op_Lits : fldOff P 35 3 = some 3 := by kernel_rfl
/-- engine.Engine -/
abbrev T.engine_Engine : TypeId := 87
theorem ti_engine_Engine : TI P 87 [(.int .i64 0), (.pointer none), (.pointer none), (.slice none 0 0), (.slice none 0 0), (.slice none 0 0), (.slice none 0 0), .nilIface, (.int .i64 0), (.bool false), (.bool false), (.bool false), (.int .i64 0)] 13 160 := TI.of (z := (.agg #[(.int .i64 0), (.pointer none), (.pointer none), (.slice none 0 0), (.slice none 0 0), (.slice none 0 0), (.slice none 0 0), .nilIface, (.int .i64 0), (.bool false), (.bool false), (.bool false), (.int .i64 0)])) (by kernel_rfl) rfl
theorem ag_engine_Engine : agN P 87 = some 13 := by kernel_rfl
theorem bi_engine_Engine : bldInfo P 87 = some (#[(.int .i64 0), (.pointer none), (.pointer none), (.slice none 0 0), (.slice none 0 0), (.slice none 0 0), (.slice none 0 0), .nilIface, (.int .i64 0), (.bool false), (.bool false), (.bool false), (.int .i64 0)], #[(0, 1), (1, 1), (2, 1), (3, 1), (4, 1), (5, 1), (6, 1), (7, 1), (8, 1), (9, 1), (10, 1), (11, 1), (12, 1)]) := by kernel_rfl
theorem bd_engine_Engine_0_1_2_4_7 {h : Heap} {k : Value → Prop} {v0 v1 v2 v4 v7 : Value} (h0 : sc1 v0 = true) (h1 : sc1 v1 = true) (h2 : sc1 v2 = true) (h4 : sc1 v4 = true) (h7 : sc1 v7 = true) : rd P h (Instr.build 87 #[(0, v0), (1, v1), (2, v2), (4, v4), (7, v7)]) k = k (.agg #[v0, v1, v2, (.slice none 0 0), v4, (.slice none 0 0), (.slice none 0 0), v7, (.int .i64 0), (.bool false), (.bool false), (.bool false), (.int .i64 0)]) := rd_bld bi_engine_Engine (by simp [Instr.fill, sc1_cells h0, sc1_cells h1, sc1_cells h2, sc1_cells h4, sc1_cells h7, cells_agg])
theorem qbd_engine_Engine_0_1_2_4_7 {k : Value → Prop} {v0 v1 v2 v4 v7 : Value} (h0 : sc1 v0 = true) (h1 : sc1 v1 = true) (h2 : sc1 v2 = true) (h4 : sc1 v4 = true) (h7 : sc1 v7 = true) : qa P (Instr.build 87 #[(0, v0), (1, v1), (2, v2), (4, v4), (7, v7)]) k = k (.agg #[v0, v1, v2, (.slice none 0 0), v4, (.slice none 0 0), (.slice none 0 0), v7, (.int .i64 0), (.bool false), (.bool false), (.bool false), (.int .i64 0)]) := qa_bld bi_engine_Engine (by simp [Instr.fill, sc1_cells h0, sc1_cells h1, sc1_cells h2, sc1_cells h4, sc1_cells h7, cells_agg])
theorem fa_engine_Engine_vars {h : Heap} {k : Value → Prop} {b o : Nat} : rd P h (Instr.fieldAt 87 (.pointer (some ⟨b, o, none⟩)) 0) k = k (.pointer (some ⟨b, o + 0, none⟩)) := rd_fld (by kernel_rfl)
theorem qfa_engine_Engine_vars {k : Value → Prop} {b o : Nat} : qa P (Instr.fieldAt 87 (.pointer (some ⟨b, o, none⟩)) 0) k = k (.pointer (some ⟨b, o + 0, none⟩)) := qa_fld (by kernel_rfl)
theorem fv_engine_Engine_vars {h : Heap} {k : Value → Prop} {l : List Value} {v : Value} (hv : l[0]? = some v) : rd P h (Instr.field 87 (.agg ⟨l⟩) 0) k = k v := rd_fv (by kernel_rfl) hv
theorem ff_engine_Engine_vars : fldOff P 87 0 = some 0 := by kernel_rfl
theorem fa_engine_Engine_store {h : Heap} {k : Value → Prop} {b o : Nat} : rd P h (Instr.fieldAt 87 (.pointer (some ⟨b, o, none⟩)) 1) k = k (.pointer (some ⟨b, o + 1, none⟩)) := rd_fld (by kernel_rfl)
theorem qfa_engine_Engine_store {k : Value → Prop} {b o : Nat} : qa P (Instr.fieldAt 87 (.pointer (some ⟨b, o, none⟩)) 1) k = k (.pointer (some ⟨b, o + 1, none⟩)) := qa_fld (by kernel_rfl)
theorem fv_engine_Engine_store {h : Heap} {k : Value → Prop} {l : List Value} {v : Value} (hv : l[1]? = some v) : rd P h (Instr.field 87 (.agg ⟨l⟩) 1) k = k v := rd_fv (by kernel_rfl) hv
theorem ff_engine_Engine_store : fldOff P 87 1 = some 1 := by kernel_rfl
theorem fa_engine_Engine_trail {h : Heap} {k : Value → Prop} {b o : Nat} : rd P h (Instr.fieldAt 87 (.pointer (some ⟨b, o, none⟩)) 2) k = k (.pointer (some ⟨b, o + 2, none⟩)) := rd_fld (by kernel_rfl)
theorem qfa_engine_Engine_trail {k : Value → Prop} {b o : Nat} : qa P (Instr.fieldAt 87 (.pointer (some ⟨b, o, none⟩)) 2) k = k (.pointer (some ⟨b, o + 2, none⟩)) := qa_fld (by kernel_rfl)
theorem fv_engine_Engine_trail {h : Heap} {k : Value → Prop} {l : List Value} {v : Value} (hv : l[2]? = some v) : rd P h (Instr.field 87 (.agg ⟨l⟩) 2) k = k v := rd_fv (by kernel_rfl) hv
theorem ff_engine_Engine_trail : fldOff P 87 2 = some 2 := by kernel_rfl
theorem fa_engine_Engine_order {h : Heap} {k : Value → Prop} {b o : Nat} : rd P h (Instr.fieldAt 87 (.pointer (some ⟨b, o, none⟩)) 3) k = k (.pointer (some ⟨b, o + 3, none⟩)) := rd_fld (by kernel_rfl)
theorem qfa_engine_Engine_order {k : Value → Prop} {b o : Nat} : qa P (Instr.fieldAt 87 (.pointer (some ⟨b, o, none⟩)) 3) k = k (.pointer (some ⟨b, o + 3, none⟩)) := qa_fld (by kernel_rfl)
theorem fv_engine_Engine_order {h : Heap} {k : Value → Prop} {l : List Value} {v : Value} (hv : l[3]? = some v) : rd P h (Instr.field 87 (.agg ⟨l⟩) 3) k = k v := rd_fv (by kernel_rfl) hv
theorem ff_engine_Engine_order : fldOff P 87 3 = some 3 := by kernel_rfl
theorem fa_engine_Engine_lists {h : Heap} {k : Value → Prop} {b o : Nat} : rd P h (Instr.fieldAt 87 (.pointer (some ⟨b, o, none⟩)) 4) k = k (.pointer (some ⟨b, o + 4, none⟩)) := rd_fld (by kernel_rfl)
theorem qfa_engine_Engine_lists {k : Value → Prop} {b o : Nat} : qa P (Instr.fieldAt 87 (.pointer (some ⟨b, o, none⟩)) 4) k = k (.pointer (some ⟨b, o + 4, none⟩)) := qa_fld (by kernel_rfl)
theorem fv_engine_Engine_lists {h : Heap} {k : Value → Prop} {l : List Value} {v : Value} (hv : l[4]? = some v) : rd P h (Instr.field 87 (.agg ⟨l⟩) 4) k = k v := rd_fv (by kernel_rfl) hv
theorem ff_engine_Engine_lists : fldOff P 87 4 = some 4 := by kernel_rfl
theorem fa_engine_Engine_short {h : Heap} {k : Value → Prop} {b o : Nat} : rd P h (Instr.fieldAt 87 (.pointer (some ⟨b, o, none⟩)) 5) k = k (.pointer (some ⟨b, o + 5, none⟩)) := rd_fld (by kernel_rfl)
theorem qfa_engine_Engine_short {k : Value → Prop} {b o : Nat} : qa P (Instr.fieldAt 87 (.pointer (some ⟨b, o, none⟩)) 5) k = k (.pointer (some ⟨b, o + 5, none⟩)) := qa_fld (by kernel_rfl)
theorem fv_engine_Engine_short {h : Heap} {k : Value → Prop} {l : List Value} {v : Value} (hv : l[5]? = some v) : rd P h (Instr.field 87 (.agg ⟨l⟩) 5) k = k v := rd_fv (by kernel_rfl) hv
theorem ff_engine_Engine_short : fldOff P 87 5 = some 5 := by kernel_rfl
theorem fa_engine_Engine_learnts {h : Heap} {k : Value → Prop} {b o : Nat} : rd P h (Instr.fieldAt 87 (.pointer (some ⟨b, o, none⟩)) 6) k = k (.pointer (some ⟨b, o + 6, none⟩)) := rd_fld (by kernel_rfl)
theorem qfa_engine_Engine_learnts {k : Value → Prop} {b o : Nat} : qa P (Instr.fieldAt 87 (.pointer (some ⟨b, o, none⟩)) 6) k = k (.pointer (some ⟨b, o + 6, none⟩)) := qa_fld (by kernel_rfl)
theorem fv_engine_Engine_learnts {h : Heap} {k : Value → Prop} {l : List Value} {v : Value} (hv : l[6]? = some v) : rd P h (Instr.field 87 (.agg ⟨l⟩) 6) k = k v := rd_fv (by kernel_rfl) hv
theorem ff_engine_Engine_learnts : fldOff P 87 6 = some 6 := by kernel_rfl
theorem fa_engine_Engine_log {h : Heap} {k : Value → Prop} {b o : Nat} : rd P h (Instr.fieldAt 87 (.pointer (some ⟨b, o, none⟩)) 7) k = k (.pointer (some ⟨b, o + 7, none⟩)) := rd_fld (by kernel_rfl)
theorem qfa_engine_Engine_log {k : Value → Prop} {b o : Nat} : qa P (Instr.fieldAt 87 (.pointer (some ⟨b, o, none⟩)) 7) k = k (.pointer (some ⟨b, o + 7, none⟩)) := qa_fld (by kernel_rfl)
theorem fv_engine_Engine_log {h : Heap} {k : Value → Prop} {l : List Value} {v : Value} (hv : l[7]? = some v) : rd P h (Instr.field 87 (.agg ⟨l⟩) 7) k = k v := rd_fv (by kernel_rfl) hv
theorem ff_engine_Engine_log : fldOff P 87 7 = some 7 := by kernel_rfl
theorem fa_engine_Engine_head {h : Heap} {k : Value → Prop} {b o : Nat} : rd P h (Instr.fieldAt 87 (.pointer (some ⟨b, o, none⟩)) 8) k = k (.pointer (some ⟨b, o + 8, none⟩)) := rd_fld (by kernel_rfl)
theorem qfa_engine_Engine_head {k : Value → Prop} {b o : Nat} : qa P (Instr.fieldAt 87 (.pointer (some ⟨b, o, none⟩)) 8) k = k (.pointer (some ⟨b, o + 8, none⟩)) := qa_fld (by kernel_rfl)
theorem fv_engine_Engine_head {h : Heap} {k : Value → Prop} {l : List Value} {v : Value} (hv : l[8]? = some v) : rd P h (Instr.field 87 (.agg ⟨l⟩) 8) k = k v := rd_fv (by kernel_rfl) hv
theorem ff_engine_Engine_head : fldOff P 87 8 = some 8 := by kernel_rfl
theorem fa_engine_Engine_rest {h : Heap} {k : Value → Prop} {b o : Nat} : rd P h (Instr.fieldAt 87 (.pointer (some ⟨b, o, none⟩)) 9) k = k (.pointer (some ⟨b, o + 9, none⟩)) := rd_fld (by kernel_rfl)
theorem qfa_engine_Engine_rest {k : Value → Prop} {b o : Nat} : qa P (Instr.fieldAt 87 (.pointer (some ⟨b, o, none⟩)) 9) k = k (.pointer (some ⟨b, o + 9, none⟩)) := qa_fld (by kernel_rfl)
theorem fv_engine_Engine_rest {h : Heap} {k : Value → Prop} {l : List Value} {v : Value} (hv : l[9]? = some v) : rd P h (Instr.field 87 (.agg ⟨l⟩) 9) k = k v := rd_fv (by kernel_rfl) hv
theorem ff_engine_Engine_rest : fldOff P 87 9 = some 9 := by kernel_rfl
theorem fa_engine_Engine_clash {h : Heap} {k : Value → Prop} {b o : Nat} : rd P h (Instr.fieldAt 87 (.pointer (some ⟨b, o, none⟩)) 10) k = k (.pointer (some ⟨b, o + 10, none⟩)) := rd_fld (by kernel_rfl)
theorem qfa_engine_Engine_clash {k : Value → Prop} {b o : Nat} : qa P (Instr.fieldAt 87 (.pointer (some ⟨b, o, none⟩)) 10) k = k (.pointer (some ⟨b, o + 10, none⟩)) := qa_fld (by kernel_rfl)
theorem fv_engine_Engine_clash {h : Heap} {k : Value → Prop} {l : List Value} {v : Value} (hv : l[10]? = some v) : rd P h (Instr.field 87 (.agg ⟨l⟩) 10) k = k v := rd_fv (by kernel_rfl) hv
theorem ff_engine_Engine_clash : fldOff P 87 10 = some 10 := by kernel_rfl
theorem fa_engine_Engine_dead {h : Heap} {k : Value → Prop} {b o : Nat} : rd P h (Instr.fieldAt 87 (.pointer (some ⟨b, o, none⟩)) 11) k = k (.pointer (some ⟨b, o + 11, none⟩)) := rd_fld (by kernel_rfl)
theorem qfa_engine_Engine_dead {k : Value → Prop} {b o : Nat} : qa P (Instr.fieldAt 87 (.pointer (some ⟨b, o, none⟩)) 11) k = k (.pointer (some ⟨b, o + 11, none⟩)) := qa_fld (by kernel_rfl)
theorem fv_engine_Engine_dead {h : Heap} {k : Value → Prop} {l : List Value} {v : Value} (hv : l[11]? = some v) : rd P h (Instr.field 87 (.agg ⟨l⟩) 11) k = k v := rd_fv (by kernel_rfl) hv
theorem ff_engine_Engine_dead : fldOff P 87 11 = some 11 := by kernel_rfl
theorem fa_engine_Engine_bad {h : Heap} {k : Value → Prop} {b o : Nat} : rd P h (Instr.fieldAt 87 (.pointer (some ⟨b, o, none⟩)) 12) k = k (.pointer (some ⟨b, o + 12, none⟩)) := rd_fld (by kernel_rfl)
theorem qfa_engine_Engine_bad {k : Value → Prop} {b o : Nat} : qa P (Instr.fieldAt 87 (.pointer (some ⟨b, o, none⟩)) 12) k = k (.pointer (some ⟨b, o + 12, none⟩)) := qa_fld (by kernel_rfl)
theorem fv_engine_Engine_bad {h : Heap} {k : Value → Prop} {l : List Value} {v : Value} (hv : l[12]? = some v) : rd P h (Instr.field 87 (.agg ⟨l⟩) 12) k = k v := rd_fv (by kernel_rfl) hv
theorem ff_engine_Engine_bad : fldOff P 87 12 = some 12 := by kernel_rfl
/-- engine.book -/
abbrev T.engine_book : TypeId := 81
theorem ti_engine_book : TI P 81 [(.slice none 0 0)] 1 24 := TI.of (z := (.agg #[(.slice none 0 0)])) (by kernel_rfl) rfl
theorem ag_engine_book : agN P 81 = some 1 := by kernel_rfl
theorem bi_engine_book : bldInfo P 81 = some (#[(.slice none 0 0)], #[(0, 1)]) := by kernel_rfl
theorem bd_engine_book_ {h : Heap} {k : Value → Prop} : rd P h (Instr.build 81 #[]) k = k (.agg #[(.slice none 0 0)]) := rd_bld bi_engine_book (by simp [Instr.fill, cells_agg])
theorem qbd_engine_book_ {k : Value → Prop} : qa P (Instr.build 81 #[]) k = k (.agg #[(.slice none 0 0)]) := qa_bld bi_engine_book (by simp [Instr.fill, cells_agg])
theorem fa_engine_book_steps {h : Heap} {k : Value → Prop} {b o : Nat} : rd P h (Instr.fieldAt 81 (.pointer (some ⟨b, o, none⟩)) 0) k = k (.pointer (some ⟨b, o + 0, none⟩)) := rd_fld (by kernel_rfl)
theorem qfa_engine_book_steps {k : Value → Prop} {b o : Nat} : qa P (Instr.fieldAt 81 (.pointer (some ⟨b, o, none⟩)) 0) k = k (.pointer (some ⟨b, o + 0, none⟩)) := qa_fld (by kernel_rfl)
theorem fv_engine_book_steps {h : Heap} {k : Value → Prop} {l : List Value} {v : Value} (hv : l[0]? = some v) : rd P h (Instr.field 81 (.agg ⟨l⟩) 0) k = k v := rd_fv (by kernel_rfl) hv
theorem ff_engine_book_steps : fldOff P 81 0 = some 0 := by kernel_rfl
/-- engine.held -/
abbrev T.engine_held : TypeId := 93
theorem ti_engine_held : TI P 93 [(.int .i64 0), (.slice none 0 0), (.int .i64 0), (.int .i64 0), (.bool false)] 5 56 := TI.of (z := (.agg #[(.int .i64 0), (.slice none 0 0), (.int .i64 0), (.int .i64 0), (.bool false)])) (by kernel_rfl) rfl
theorem ag_engine_held : agN P 93 = some 5 := by kernel_rfl
theorem bi_engine_held : bldInfo P 93 = some (#[(.int .i64 0), (.slice none 0 0), (.int .i64 0), (.int .i64 0), (.bool false)], #[(0, 1), (1, 1), (2, 2), (4, 1)]) := by kernel_rfl
theorem bd_engine_held_0_1 {h : Heap} {k : Value → Prop} {v0 v1 : Value} (h0 : sc1 v0 = true) (h1 : sc1 v1 = true) : rd P h (Instr.build 93 #[(0, v0), (1, v1)]) k = k (.agg #[v0, v1, (.int .i64 0), (.int .i64 0), (.bool false)]) := rd_bld bi_engine_held (by simp [Instr.fill, sc1_cells h0, sc1_cells h1, cells_agg])
theorem qbd_engine_held_0_1 {k : Value → Prop} {v0 v1 : Value} (h0 : sc1 v0 = true) (h1 : sc1 v1 = true) : qa P (Instr.build 93 #[(0, v0), (1, v1)]) k = k (.agg #[v0, v1, (.int .i64 0), (.int .i64 0), (.bool false)]) := qa_bld bi_engine_held (by simp [Instr.fill, sc1_cells h0, sc1_cells h1, cells_agg])
theorem fa_engine_held_at {h : Heap} {k : Value → Prop} {b o : Nat} : rd P h (Instr.fieldAt 93 (.pointer (some ⟨b, o, none⟩)) 0) k = k (.pointer (some ⟨b, o + 0, none⟩)) := rd_fld (by kernel_rfl)
theorem qfa_engine_held_at {k : Value → Prop} {b o : Nat} : qa P (Instr.fieldAt 93 (.pointer (some ⟨b, o, none⟩)) 0) k = k (.pointer (some ⟨b, o + 0, none⟩)) := qa_fld (by kernel_rfl)
theorem fv_engine_held_at {h : Heap} {k : Value → Prop} {l : List Value} {v : Value} (hv : l[0]? = some v) : rd P h (Instr.field 93 (.agg ⟨l⟩) 0) k = k v := rd_fv (by kernel_rfl) hv
theorem ff_engine_held_at : fldOff P 93 0 = some 0 := by kernel_rfl
theorem fa_engine_held_lits {h : Heap} {k : Value → Prop} {b o : Nat} : rd P h (Instr.fieldAt 93 (.pointer (some ⟨b, o, none⟩)) 1) k = k (.pointer (some ⟨b, o + 1, none⟩)) := rd_fld (by kernel_rfl)
theorem qfa_engine_held_lits {k : Value → Prop} {b o : Nat} : qa P (Instr.fieldAt 93 (.pointer (some ⟨b, o, none⟩)) 1) k = k (.pointer (some ⟨b, o + 1, none⟩)) := qa_fld (by kernel_rfl)
theorem fv_engine_held_lits {h : Heap} {k : Value → Prop} {l : List Value} {v : Value} (hv : l[1]? = some v) : rd P h (Instr.field 93 (.agg ⟨l⟩) 1) k = k v := rd_fv (by kernel_rfl) hv
theorem ff_engine_held_lits : fldOff P 93 1 = some 1 := by kernel_rfl
theorem fa_engine_held_eyes {h : Heap} {k : Value → Prop} {b o : Nat} : rd P h (Instr.fieldAt 93 (.pointer (some ⟨b, o, none⟩)) 2) k = k (.pointer (some ⟨b, o + 2, none⟩)) := rd_fld (by kernel_rfl)
theorem qfa_engine_held_eyes {k : Value → Prop} {b o : Nat} : qa P (Instr.fieldAt 93 (.pointer (some ⟨b, o, none⟩)) 2) k = k (.pointer (some ⟨b, o + 2, none⟩)) := qa_fld (by kernel_rfl)
theorem ff_engine_held_eyes : fldOff P 93 2 = some 2 := by kernel_rfl
theorem fa_engine_held_gone {h : Heap} {k : Value → Prop} {b o : Nat} : rd P h (Instr.fieldAt 93 (.pointer (some ⟨b, o, none⟩)) 3) k = k (.pointer (some ⟨b, o + 4, none⟩)) := rd_fld (by kernel_rfl)
theorem qfa_engine_held_gone {k : Value → Prop} {b o : Nat} : qa P (Instr.fieldAt 93 (.pointer (some ⟨b, o, none⟩)) 3) k = k (.pointer (some ⟨b, o + 4, none⟩)) := qa_fld (by kernel_rfl)
theorem fv_engine_held_gone {h : Heap} {k : Value → Prop} {l : List Value} {v : Value} (hv : l[4]? = some v) : rd P h (Instr.field 93 (.agg ⟨l⟩) 3) k = k v := rd_fv (by kernel_rfl) hv
theorem ff_engine_held_gone : fldOff P 93 3 = some 4 := by kernel_rfl
/-- engine.logger -/
abbrev T.engine_logger : TypeId := 84
theorem ti_engine_logger : TI P 84 [.nilIface] 1 16 := TI.of (z := .nilIface) (by kernel_rfl) rfl
theorem sc_engine_logger : scT P 84 = true := by kernel_rfl
/-- int -/
abbrev T.int : TypeId := 3
theorem ti_int : TI P 3 [(.int .i64 0)] 1 8 := TI.of (z := (.int .i64 0)) (by kernel_rfl) rfl
theorem sc_int : scT P 3 = true := by kernel_rfl
/-- int32 -/
abbrev T.int32 : TypeId := 21
theorem ti_int32 : TI P 21 [(.int .i32 0)] 1 4 := TI.of (z := (.int .i32 0)) (by kernel_rfl) rfl
theorem sc_int32 : scT P 21 = true := by kernel_rfl
/-- int64 -/
abbrev T.int64 : TypeId := 2
theorem ti_int64 : TI P 2 [(.int .i64 0)] 1 8 := TI.of (z := (.int .i64 0)) (by kernel_rfl) rfl
theorem sc_int64 : scT P 2 = true := by kernel_rfl
/-- int8 -/
abbrev T.int8 : TypeId := 68
theorem ti_int8 : TI P 68 [(.int .i8 0)] 1 1 := TI.of (z := (.int .i8 0)) (by kernel_rfl) rfl
theorem sc_int8 : scT P 68 = true := by kernel_rfl
/-- interface {} -/
abbrev T.interface : TypeId := 20
theorem ti_interface : TI P 20 [.nilIface] 1 16 := TI.of (z := .nilIface) (by kernel_rfl) rfl
theorem sc_interface : scT P 20 = true := by kernel_rfl
/-- interface { engine.all() []api.Step; engine.note(api.Step) } -/
abbrev T.interface_engine_all_Sl_api_Step_engine_note_api_Step : TypeId := 83
theorem ti_interface_engine_all_Sl_api_Step_engine_note_api_Step : TI P 83 [.nilIface] 1 16 := TI.of (z := .nilIface) (by kernel_rfl) rfl
theorem sc_interface_engine_all_Sl_api_Step_engine_note_api_Step : scT P 83 = true := by kernel_rfl
/-- iter.Seq[[]bool] -/
abbrev T.iter_Seq_Sl_bool : TypeId := 113
theorem sc_iter_Seq_Sl_bool : scT P 113 = true := by kernel_rfl
/-- map[arena.Ref]arena.mark -/
abbrev T.map_arena_Ref_arena_mark : TypeId := 126
theorem ti_map_arena_Ref_arena_mark : TI P 126 [(.map none)] 1 8 := TI.of (z := (.map none)) (by kernel_rfl) rfl
theorem sc_map_arena_Ref_arena_mark : scT P 126 = true := by kernel_rfl
theorem mp_map_arena_Ref_arena_mark : P.underlying 126 = some (.map 85 131) := by kernel_rfl
/-- map[int]int -/
abbrev T.map_int_int : TypeId := 147
theorem ti_map_int_int : TI P 147 [(.map none)] 1 8 := TI.of (z := (.map none)) (by kernel_rfl) rfl
theorem sc_map_int_int : scT P 147 = true := by kernel_rfl
theorem mp_map_int_int : P.underlying 147 = some (.map 3 3) := by kernel_rfl
/-- maps.unhashableTypeError -/
abbrev T.maps_unhashableTypeError : TypeId := 19
theorem ti_maps_unhashableTypeError : TI P 19 [(.pointer none)] 1 8 := TI.of (z := (.agg #[(.pointer none)])) (by kernel_rfl) rfl
theorem ag_maps_unhashableTypeError : agN P 19 = some 1 := by kernel_rfl
theorem fa_maps_unhashableTypeError_typ {h : Heap} {k : Value → Prop} {b o : Nat} : rd P h (Instr.fieldAt 19 (.pointer (some ⟨b, o, none⟩)) 0) k = k (.pointer (some ⟨b, o + 0, none⟩)) := rd_fld (by kernel_rfl)
theorem qfa_maps_unhashableTypeError_typ {k : Value → Prop} {b o : Nat} : qa P (Instr.fieldAt 19 (.pointer (some ⟨b, o, none⟩)) 0) k = k (.pointer (some ⟨b, o + 0, none⟩)) := qa_fld (by kernel_rfl)
theorem fv_maps_unhashableTypeError_typ {h : Heap} {k : Value → Prop} {l : List Value} {v : Value} (hv : l[0]? = some v) : rd P h (Instr.field 19 (.agg ⟨l⟩) 0) k = k v := rd_fv (by kernel_rfl) hv
theorem ff_maps_unhashableTypeError_typ : fldOff P 19 0 = some 0 := by kernel_rfl
/-- runtime.PanicNilError -/
abbrev T.runtime_PanicNilError : TypeId := 197
theorem ti_runtime_PanicNilError : TI P 197 [] 0 0 := TI.of (z := (.agg #[])) (by kernel_rfl) rfl
theorem ag_runtime_PanicNilError : agN P 197 = some 0 := by kernel_rfl
/-- runtime.TypeAssertionError -/
abbrev T.runtime_TypeAssertionError : TypeId := 194
theorem ti_runtime_TypeAssertionError : TI P 194 [(.pointer none), (.pointer none), (.pointer none), (.string .empty)] 4 40 := TI.of (z := (.agg #[(.pointer none), (.pointer none), (.pointer none), (.string .empty)])) (by kernel_rfl) rfl
theorem ag_runtime_TypeAssertionError : agN P 194 = some 4 := by kernel_rfl
theorem fa_runtime_TypeAssertionError__interface {h : Heap} {k : Value → Prop} {b o : Nat} : rd P h (Instr.fieldAt 194 (.pointer (some ⟨b, o, none⟩)) 0) k = k (.pointer (some ⟨b, o + 0, none⟩)) := rd_fld (by kernel_rfl)
theorem qfa_runtime_TypeAssertionError__interface {k : Value → Prop} {b o : Nat} : qa P (Instr.fieldAt 194 (.pointer (some ⟨b, o, none⟩)) 0) k = k (.pointer (some ⟨b, o + 0, none⟩)) := qa_fld (by kernel_rfl)
theorem fv_runtime_TypeAssertionError__interface {h : Heap} {k : Value → Prop} {l : List Value} {v : Value} (hv : l[0]? = some v) : rd P h (Instr.field 194 (.agg ⟨l⟩) 0) k = k v := rd_fv (by kernel_rfl) hv
theorem ff_runtime_TypeAssertionError__interface : fldOff P 194 0 = some 0 := by kernel_rfl
theorem fa_runtime_TypeAssertionError_concrete {h : Heap} {k : Value → Prop} {b o : Nat} : rd P h (Instr.fieldAt 194 (.pointer (some ⟨b, o, none⟩)) 1) k = k (.pointer (some ⟨b, o + 1, none⟩)) := rd_fld (by kernel_rfl)
theorem qfa_runtime_TypeAssertionError_concrete {k : Value → Prop} {b o : Nat} : qa P (Instr.fieldAt 194 (.pointer (some ⟨b, o, none⟩)) 1) k = k (.pointer (some ⟨b, o + 1, none⟩)) := qa_fld (by kernel_rfl)
theorem fv_runtime_TypeAssertionError_concrete {h : Heap} {k : Value → Prop} {l : List Value} {v : Value} (hv : l[1]? = some v) : rd P h (Instr.field 194 (.agg ⟨l⟩) 1) k = k v := rd_fv (by kernel_rfl) hv
theorem ff_runtime_TypeAssertionError_concrete : fldOff P 194 1 = some 1 := by kernel_rfl
theorem fa_runtime_TypeAssertionError_asserted {h : Heap} {k : Value → Prop} {b o : Nat} : rd P h (Instr.fieldAt 194 (.pointer (some ⟨b, o, none⟩)) 2) k = k (.pointer (some ⟨b, o + 2, none⟩)) := rd_fld (by kernel_rfl)
theorem qfa_runtime_TypeAssertionError_asserted {k : Value → Prop} {b o : Nat} : qa P (Instr.fieldAt 194 (.pointer (some ⟨b, o, none⟩)) 2) k = k (.pointer (some ⟨b, o + 2, none⟩)) := qa_fld (by kernel_rfl)
theorem fv_runtime_TypeAssertionError_asserted {h : Heap} {k : Value → Prop} {l : List Value} {v : Value} (hv : l[2]? = some v) : rd P h (Instr.field 194 (.agg ⟨l⟩) 2) k = k v := rd_fv (by kernel_rfl) hv
theorem ff_runtime_TypeAssertionError_asserted : fldOff P 194 2 = some 2 := by kernel_rfl
theorem fa_runtime_TypeAssertionError_missingMethod {h : Heap} {k : Value → Prop} {b o : Nat} : rd P h (Instr.fieldAt 194 (.pointer (some ⟨b, o, none⟩)) 3) k = k (.pointer (some ⟨b, o + 3, none⟩)) := rd_fld (by kernel_rfl)
theorem qfa_runtime_TypeAssertionError_missingMethod {k : Value → Prop} {b o : Nat} : qa P (Instr.fieldAt 194 (.pointer (some ⟨b, o, none⟩)) 3) k = k (.pointer (some ⟨b, o + 3, none⟩)) := qa_fld (by kernel_rfl)
theorem fv_runtime_TypeAssertionError_missingMethod {h : Heap} {k : Value → Prop} {l : List Value} {v : Value} (hv : l[3]? = some v) : rd P h (Instr.field 194 (.agg ⟨l⟩) 3) k = k v := rd_fv (by kernel_rfl) hv
theorem ff_runtime_TypeAssertionError_missingMethod : fldOff P 194 3 = some 3 := by kernel_rfl
/-- runtime.boundsError -/
abbrev T.runtime_boundsError : TypeId := 8
theorem ti_runtime_boundsError : TI P 8 [(.int .i64 0), (.int .i64 0), (.bool false), (.int .u8 0)] 4 24 := TI.of (z := (.agg #[(.int .i64 0), (.int .i64 0), (.bool false), (.int .u8 0)])) (by kernel_rfl) rfl
theorem ag_runtime_boundsError : agN P 8 = some 4 := by kernel_rfl
theorem fa_runtime_boundsError_x {h : Heap} {k : Value → Prop} {b o : Nat} : rd P h (Instr.fieldAt 8 (.pointer (some ⟨b, o, none⟩)) 0) k = k (.pointer (some ⟨b, o + 0, none⟩)) := rd_fld (by kernel_rfl)
theorem qfa_runtime_boundsError_x {k : Value → Prop} {b o : Nat} : qa P (Instr.fieldAt 8 (.pointer (some ⟨b, o, none⟩)) 0) k = k (.pointer (some ⟨b, o + 0, none⟩)) := qa_fld (by kernel_rfl)
theorem fv_runtime_boundsError_x {h : Heap} {k : Value → Prop} {l : List Value} {v : Value} (hv : l[0]? = some v) : rd P h (Instr.field 8 (.agg ⟨l⟩) 0) k = k v := rd_fv (by kernel_rfl) hv
theorem ff_runtime_boundsError_x : fldOff P 8 0 = some 0 := by kernel_rfl
theorem fa_runtime_boundsError_y {h : Heap} {k : Value → Prop} {b o : Nat} : rd P h (Instr.fieldAt 8 (.pointer (some ⟨b, o, none⟩)) 1) k = k (.pointer (some ⟨b, o + 1, none⟩)) := rd_fld (by kernel_rfl)
theorem qfa_runtime_boundsError_y {k : Value → Prop} {b o : Nat} : qa P (Instr.fieldAt 8 (.pointer (some ⟨b, o, none⟩)) 1) k = k (.pointer (some ⟨b, o + 1, none⟩)) := qa_fld (by kernel_rfl)
theorem fv_runtime_boundsError_y {h : Heap} {k : Value → Prop} {l : List Value} {v : Value} (hv : l[1]? = some v) : rd P h (Instr.field 8 (.agg ⟨l⟩) 1) k = k v := rd_fv (by kernel_rfl) hv
theorem ff_runtime_boundsError_y : fldOff P 8 1 = some 1 := by kernel_rfl
theorem fa_runtime_boundsError_signed {h : Heap} {k : Value → Prop} {b o : Nat} : rd P h (Instr.fieldAt 8 (.pointer (some ⟨b, o, none⟩)) 2) k = k (.pointer (some ⟨b, o + 2, none⟩)) := rd_fld (by kernel_rfl)
theorem qfa_runtime_boundsError_signed {k : Value → Prop} {b o : Nat} : qa P (Instr.fieldAt 8 (.pointer (some ⟨b, o, none⟩)) 2) k = k (.pointer (some ⟨b, o + 2, none⟩)) := qa_fld (by kernel_rfl)
theorem fv_runtime_boundsError_signed {h : Heap} {k : Value → Prop} {l : List Value} {v : Value} (hv : l[2]? = some v) : rd P h (Instr.field 8 (.agg ⟨l⟩) 2) k = k v := rd_fv (by kernel_rfl) hv
theorem ff_runtime_boundsError_signed : fldOff P 8 2 = some 2 := by kernel_rfl
theorem fa_runtime_boundsError_code {h : Heap} {k : Value → Prop} {b o : Nat} : rd P h (Instr.fieldAt 8 (.pointer (some ⟨b, o, none⟩)) 3) k = k (.pointer (some ⟨b, o + 3, none⟩)) := rd_fld (by kernel_rfl)
theorem qfa_runtime_boundsError_code {k : Value → Prop} {b o : Nat} : qa P (Instr.fieldAt 8 (.pointer (some ⟨b, o, none⟩)) 3) k = k (.pointer (some ⟨b, o + 3, none⟩)) := qa_fld (by kernel_rfl)
theorem fv_runtime_boundsError_code {h : Heap} {k : Value → Prop} {l : List Value} {v : Value} (hv : l[3]? = some v) : rd P h (Instr.field 8 (.agg ⟨l⟩) 3) k = k v := rd_fv (by kernel_rfl) hv
theorem ff_runtime_boundsError_code : fldOff P 8 3 = some 3 := by kernel_rfl
/-- runtime.errorAddressString -/
abbrev T.runtime_errorAddressString : TypeId := 14
theorem ti_runtime_errorAddressString : TI P 14 [(.string .empty), (.int .u64 0)] 2 24 := TI.of (z := (.agg #[(.string .empty), (.int .u64 0)])) (by kernel_rfl) rfl
theorem ag_runtime_errorAddressString : agN P 14 = some 2 := by kernel_rfl
theorem fa_runtime_errorAddressString_msg {h : Heap} {k : Value → Prop} {b o : Nat} : rd P h (Instr.fieldAt 14 (.pointer (some ⟨b, o, none⟩)) 0) k = k (.pointer (some ⟨b, o + 0, none⟩)) := rd_fld (by kernel_rfl)
theorem qfa_runtime_errorAddressString_msg {k : Value → Prop} {b o : Nat} : qa P (Instr.fieldAt 14 (.pointer (some ⟨b, o, none⟩)) 0) k = k (.pointer (some ⟨b, o + 0, none⟩)) := qa_fld (by kernel_rfl)
theorem fv_runtime_errorAddressString_msg {h : Heap} {k : Value → Prop} {l : List Value} {v : Value} (hv : l[0]? = some v) : rd P h (Instr.field 14 (.agg ⟨l⟩) 0) k = k v := rd_fv (by kernel_rfl) hv
theorem ff_runtime_errorAddressString_msg : fldOff P 14 0 = some 0 := by kernel_rfl
theorem fa_runtime_errorAddressString_addr {h : Heap} {k : Value → Prop} {b o : Nat} : rd P h (Instr.fieldAt 14 (.pointer (some ⟨b, o, none⟩)) 1) k = k (.pointer (some ⟨b, o + 1, none⟩)) := rd_fld (by kernel_rfl)
theorem qfa_runtime_errorAddressString_addr {k : Value → Prop} {b o : Nat} : qa P (Instr.fieldAt 14 (.pointer (some ⟨b, o, none⟩)) 1) k = k (.pointer (some ⟨b, o + 1, none⟩)) := qa_fld (by kernel_rfl)
theorem fv_runtime_errorAddressString_addr {h : Heap} {k : Value → Prop} {l : List Value} {v : Value} (hv : l[1]? = some v) : rd P h (Instr.field 14 (.agg ⟨l⟩) 1) k = k v := rd_fv (by kernel_rfl) hv
theorem ff_runtime_errorAddressString_addr : fldOff P 14 1 = some 1 := by kernel_rfl
/-- runtime.errorString -/
abbrev T.runtime_errorString : TypeId := 10
theorem ti_runtime_errorString : TI P 10 [(.string .empty)] 1 16 := TI.of (z := (.string .empty)) (by kernel_rfl) rfl
theorem sc_runtime_errorString : scT P 10 = true := by kernel_rfl
/-- runtime.plainError -/
abbrev T.runtime_plainError : TypeId := 11
theorem ti_runtime_plainError : TI P 11 [(.string .empty)] 1 16 := TI.of (z := (.string .empty)) (by kernel_rfl) rfl
theorem sc_runtime_plainError : scT P 11 = true := by kernel_rfl
/-- slices.sortedHint -/
abbrev T.slices_sortedHint : TypeId := 171
theorem ti_slices_sortedHint : TI P 171 [(.int .i64 0)] 1 8 := TI.of (z := (.int .i64 0)) (by kernel_rfl) rfl
theorem sc_slices_sortedHint : scT P 171 = true := by kernel_rfl
/-- slices.xorshift -/
abbrev T.slices_xorshift : TypeId := 182
theorem ti_slices_xorshift : TI P 182 [(.int .u64 0)] 1 8 := TI.of (z := (.int .u64 0)) (by kernel_rfl) rfl
theorem sc_slices_xorshift : scT P 182 = true := by kernel_rfl
/-- string -/
abbrev T.string : TypeId := 9
theorem ti_string : TI P 9 [(.string .empty)] 1 16 := TI.of (z := (.string .empty)) (by kernel_rfl) rfl
theorem sc_string : scT P 9 = true := by kernel_rfl
/-- struct { Drop bool; Lits []int } -/
abbrev T.struct_Drop_bool_Lits_Sl_int : TypeId := 100
theorem ti_struct_Drop_bool_Lits_Sl_int : TI P 100 [(.bool false), (.slice none 0 0)] 2 32 := TI.of (z := (.agg #[(.bool false), (.slice none 0 0)])) (by kernel_rfl) rfl
theorem ag_struct_Drop_bool_Lits_Sl_int : agN P 100 = some 2 := by kernel_rfl
theorem fa_struct_Drop_bool_Lits_Sl_int_Drop {h : Heap} {k : Value → Prop} {b o : Nat} : rd P h (Instr.fieldAt 100 (.pointer (some ⟨b, o, none⟩)) 0) k = k (.pointer (some ⟨b, o + 0, none⟩)) := rd_fld (by kernel_rfl)
theorem qfa_struct_Drop_bool_Lits_Sl_int_Drop {k : Value → Prop} {b o : Nat} : qa P (Instr.fieldAt 100 (.pointer (some ⟨b, o, none⟩)) 0) k = k (.pointer (some ⟨b, o + 0, none⟩)) := qa_fld (by kernel_rfl)
theorem fv_struct_Drop_bool_Lits_Sl_int_Drop {h : Heap} {k : Value → Prop} {l : List Value} {v : Value} (hv : l[0]? = some v) : rd P h (Instr.field 100 (.agg ⟨l⟩) 0) k = k v := rd_fv (by kernel_rfl) hv
theorem ff_struct_Drop_bool_Lits_Sl_int_Drop : fldOff P 100 0 = some 0 := by kernel_rfl
theorem fa_struct_Drop_bool_Lits_Sl_int_Lits {h : Heap} {k : Value → Prop} {b o : Nat} : rd P h (Instr.fieldAt 100 (.pointer (some ⟨b, o, none⟩)) 1) k = k (.pointer (some ⟨b, o + 1, none⟩)) := rd_fld (by kernel_rfl)
theorem qfa_struct_Drop_bool_Lits_Sl_int_Lits {k : Value → Prop} {b o : Nat} : qa P (Instr.fieldAt 100 (.pointer (some ⟨b, o, none⟩)) 1) k = k (.pointer (some ⟨b, o + 1, none⟩)) := qa_fld (by kernel_rfl)
theorem fv_struct_Drop_bool_Lits_Sl_int_Lits {h : Heap} {k : Value → Prop} {l : List Value} {v : Value} (hv : l[1]? = some v) : rd P h (Instr.field 100 (.agg ⟨l⟩) 1) k = k v := rd_fv (by kernel_rfl) hv
theorem ff_struct_Drop_bool_Lits_Sl_int_Lits : fldOff P 100 1 = some 1 := by kernel_rfl
/-- struct { Kind int; Which int; Lit int; Lits []int } -/
abbrev T.struct_Kind_int_Which_int_Lit_int_Lits_Sl_int : TypeId := 34
theorem ti_struct_Kind_int_Which_int_Lit_int_Lits_Sl_int : TI P 34 [(.int .i64 0), (.int .i64 0), (.int .i64 0), (.slice none 0 0)] 4 48 := TI.of (z := (.agg #[(.int .i64 0), (.int .i64 0), (.int .i64 0), (.slice none 0 0)])) (by kernel_rfl) rfl
theorem ag_struct_Kind_int_Which_int_Lit_int_Lits_Sl_int : agN P 34 = some 4 := by kernel_rfl
theorem fa_struct_Kind_int_Which_int_Lit_int_Lits_Sl_int_Kind {h : Heap} {k : Value → Prop} {b o : Nat} : rd P h (Instr.fieldAt 34 (.pointer (some ⟨b, o, none⟩)) 0) k = k (.pointer (some ⟨b, o + 0, none⟩)) := rd_fld (by kernel_rfl)
theorem qfa_struct_Kind_int_Which_int_Lit_int_Lits_Sl_int_Kind {k : Value → Prop} {b o : Nat} : qa P (Instr.fieldAt 34 (.pointer (some ⟨b, o, none⟩)) 0) k = k (.pointer (some ⟨b, o + 0, none⟩)) := qa_fld (by kernel_rfl)
theorem fv_struct_Kind_int_Which_int_Lit_int_Lits_Sl_int_Kind {h : Heap} {k : Value → Prop} {l : List Value} {v : Value} (hv : l[0]? = some v) : rd P h (Instr.field 34 (.agg ⟨l⟩) 0) k = k v := rd_fv (by kernel_rfl) hv
theorem ff_struct_Kind_int_Which_int_Lit_int_Lits_Sl_int_Kind : fldOff P 34 0 = some 0 := by kernel_rfl
theorem fa_struct_Kind_int_Which_int_Lit_int_Lits_Sl_int_Which {h : Heap} {k : Value → Prop} {b o : Nat} : rd P h (Instr.fieldAt 34 (.pointer (some ⟨b, o, none⟩)) 1) k = k (.pointer (some ⟨b, o + 1, none⟩)) := rd_fld (by kernel_rfl)
theorem qfa_struct_Kind_int_Which_int_Lit_int_Lits_Sl_int_Which {k : Value → Prop} {b o : Nat} : qa P (Instr.fieldAt 34 (.pointer (some ⟨b, o, none⟩)) 1) k = k (.pointer (some ⟨b, o + 1, none⟩)) := qa_fld (by kernel_rfl)
theorem fv_struct_Kind_int_Which_int_Lit_int_Lits_Sl_int_Which {h : Heap} {k : Value → Prop} {l : List Value} {v : Value} (hv : l[1]? = some v) : rd P h (Instr.field 34 (.agg ⟨l⟩) 1) k = k v := rd_fv (by kernel_rfl) hv
theorem ff_struct_Kind_int_Which_int_Lit_int_Lits_Sl_int_Which : fldOff P 34 1 = some 1 := by kernel_rfl
theorem fa_struct_Kind_int_Which_int_Lit_int_Lits_Sl_int_Lit {h : Heap} {k : Value → Prop} {b o : Nat} : rd P h (Instr.fieldAt 34 (.pointer (some ⟨b, o, none⟩)) 2) k = k (.pointer (some ⟨b, o + 2, none⟩)) := rd_fld (by kernel_rfl)
theorem qfa_struct_Kind_int_Which_int_Lit_int_Lits_Sl_int_Lit {k : Value → Prop} {b o : Nat} : qa P (Instr.fieldAt 34 (.pointer (some ⟨b, o, none⟩)) 2) k = k (.pointer (some ⟨b, o + 2, none⟩)) := qa_fld (by kernel_rfl)
theorem fv_struct_Kind_int_Which_int_Lit_int_Lits_Sl_int_Lit {h : Heap} {k : Value → Prop} {l : List Value} {v : Value} (hv : l[2]? = some v) : rd P h (Instr.field 34 (.agg ⟨l⟩) 2) k = k v := rd_fv (by kernel_rfl) hv
theorem ff_struct_Kind_int_Which_int_Lit_int_Lits_Sl_int_Lit : fldOff P 34 2 = some 2 := by kernel_rfl
theorem fa_struct_Kind_int_Which_int_Lit_int_Lits_Sl_int_Lits {h : Heap} {k : Value → Prop} {b o : Nat} : rd P h (Instr.fieldAt 34 (.pointer (some ⟨b, o, none⟩)) 3) k = k (.pointer (some ⟨b, o + 3, none⟩)) := rd_fld (by kernel_rfl)
theorem qfa_struct_Kind_int_Which_int_Lit_int_Lits_Sl_int_Lits {k : Value → Prop} {b o : Nat} : qa P (Instr.fieldAt 34 (.pointer (some ⟨b, o, none⟩)) 3) k = k (.pointer (some ⟨b, o + 3, none⟩)) := qa_fld (by kernel_rfl)
theorem fv_struct_Kind_int_Which_int_Lit_int_Lits_Sl_int_Lits {h : Heap} {k : Value → Prop} {l : List Value} {v : Value} (hv : l[3]? = some v) : rd P h (Instr.field 34 (.agg ⟨l⟩) 3) k = k v := rd_fv (by kernel_rfl) hv
theorem ff_struct_Kind_int_Which_int_Lit_int_Lits_Sl_int_Lits : fldOff P 34 3 = some 3 := by kernel_rfl
/-- struct { Lit int; Level int; Reason []int } -/
abbrev T.struct_Lit_int_Level_int_Reason_Sl_int : TypeId := 141
theorem ti_struct_Lit_int_Level_int_Reason_Sl_int : TI P 141 [(.int .i64 0), (.int .i64 0), (.slice none 0 0)] 3 40 := TI.of (z := (.agg #[(.int .i64 0), (.int .i64 0), (.slice none 0 0)])) (by kernel_rfl) rfl
theorem ag_struct_Lit_int_Level_int_Reason_Sl_int : agN P 141 = some 3 := by kernel_rfl
theorem fa_struct_Lit_int_Level_int_Reason_Sl_int_Lit {h : Heap} {k : Value → Prop} {b o : Nat} : rd P h (Instr.fieldAt 141 (.pointer (some ⟨b, o, none⟩)) 0) k = k (.pointer (some ⟨b, o + 0, none⟩)) := rd_fld (by kernel_rfl)
theorem qfa_struct_Lit_int_Level_int_Reason_Sl_int_Lit {k : Value → Prop} {b o : Nat} : qa P (Instr.fieldAt 141 (.pointer (some ⟨b, o, none⟩)) 0) k = k (.pointer (some ⟨b, o + 0, none⟩)) := qa_fld (by kernel_rfl)
theorem fv_struct_Lit_int_Level_int_Reason_Sl_int_Lit {h : Heap} {k : Value → Prop} {l : List Value} {v : Value} (hv : l[0]? = some v) : rd P h (Instr.field 141 (.agg ⟨l⟩) 0) k = k v := rd_fv (by kernel_rfl) hv
theorem ff_struct_Lit_int_Level_int_Reason_Sl_int_Lit : fldOff P 141 0 = some 0 := by kernel_rfl
theorem fa_struct_Lit_int_Level_int_Reason_Sl_int_Level {h : Heap} {k : Value → Prop} {b o : Nat} : rd P h (Instr.fieldAt 141 (.pointer (some ⟨b, o, none⟩)) 1) k = k (.pointer (some ⟨b, o + 1, none⟩)) := rd_fld (by kernel_rfl)
theorem qfa_struct_Lit_int_Level_int_Reason_Sl_int_Level {k : Value → Prop} {b o : Nat} : qa P (Instr.fieldAt 141 (.pointer (some ⟨b, o, none⟩)) 1) k = k (.pointer (some ⟨b, o + 1, none⟩)) := qa_fld (by kernel_rfl)
theorem fv_struct_Lit_int_Level_int_Reason_Sl_int_Level {h : Heap} {k : Value → Prop} {l : List Value} {v : Value} (hv : l[1]? = some v) : rd P h (Instr.field 141 (.agg ⟨l⟩) 1) k = k v := rd_fv (by kernel_rfl) hv
theorem ff_struct_Lit_int_Level_int_Reason_Sl_int_Level : fldOff P 141 1 = some 1 := by kernel_rfl
theorem fa_struct_Lit_int_Level_int_Reason_Sl_int_Reason {h : Heap} {k : Value → Prop} {b o : Nat} : rd P h (Instr.fieldAt 141 (.pointer (some ⟨b, o, none⟩)) 2) k = k (.pointer (some ⟨b, o + 2, none⟩)) := rd_fld (by kernel_rfl)
theorem qfa_struct_Lit_int_Level_int_Reason_Sl_int_Reason {k : Value → Prop} {b o : Nat} : qa P (Instr.fieldAt 141 (.pointer (some ⟨b, o, none⟩)) 2) k = k (.pointer (some ⟨b, o + 2, none⟩)) := qa_fld (by kernel_rfl)
theorem fv_struct_Lit_int_Level_int_Reason_Sl_int_Reason {h : Heap} {k : Value → Prop} {l : List Value} {v : Value} (hv : l[2]? = some v) : rd P h (Instr.field 141 (.agg ⟨l⟩) 2) k = k v := rd_fv (by kernel_rfl) hv
theorem ff_struct_Lit_int_Level_int_Reason_Sl_int_Reason : fldOff P 141 2 = some 2 := by kernel_rfl
/-- struct { Vars int; Clauses [][]int } -/
abbrev T.struct_Vars_int_Clauses_Sl_Sl_int : TypeId := 23
theorem ti_struct_Vars_int_Clauses_Sl_Sl_int : TI P 23 [(.int .i64 0), (.slice none 0 0)] 2 32 := TI.of (z := (.agg #[(.int .i64 0), (.slice none 0 0)])) (by kernel_rfl) rfl
theorem ag_struct_Vars_int_Clauses_Sl_Sl_int : agN P 23 = some 2 := by kernel_rfl
theorem fa_struct_Vars_int_Clauses_Sl_Sl_int_Vars {h : Heap} {k : Value → Prop} {b o : Nat} : rd P h (Instr.fieldAt 23 (.pointer (some ⟨b, o, none⟩)) 0) k = k (.pointer (some ⟨b, o + 0, none⟩)) := rd_fld (by kernel_rfl)
theorem qfa_struct_Vars_int_Clauses_Sl_Sl_int_Vars {k : Value → Prop} {b o : Nat} : qa P (Instr.fieldAt 23 (.pointer (some ⟨b, o, none⟩)) 0) k = k (.pointer (some ⟨b, o + 0, none⟩)) := qa_fld (by kernel_rfl)
theorem fv_struct_Vars_int_Clauses_Sl_Sl_int_Vars {h : Heap} {k : Value → Prop} {l : List Value} {v : Value} (hv : l[0]? = some v) : rd P h (Instr.field 23 (.agg ⟨l⟩) 0) k = k v := rd_fv (by kernel_rfl) hv
theorem ff_struct_Vars_int_Clauses_Sl_Sl_int_Vars : fldOff P 23 0 = some 0 := by kernel_rfl
theorem fa_struct_Vars_int_Clauses_Sl_Sl_int_Clauses {h : Heap} {k : Value → Prop} {b o : Nat} : rd P h (Instr.fieldAt 23 (.pointer (some ⟨b, o, none⟩)) 1) k = k (.pointer (some ⟨b, o + 1, none⟩)) := rd_fld (by kernel_rfl)
theorem qfa_struct_Vars_int_Clauses_Sl_Sl_int_Clauses {k : Value → Prop} {b o : Nat} : qa P (Instr.fieldAt 23 (.pointer (some ⟨b, o, none⟩)) 1) k = k (.pointer (some ⟨b, o + 1, none⟩)) := qa_fld (by kernel_rfl)
theorem fv_struct_Vars_int_Clauses_Sl_Sl_int_Clauses {h : Heap} {k : Value → Prop} {l : List Value} {v : Value} (hv : l[1]? = some v) : rd P h (Instr.field 23 (.agg ⟨l⟩) 1) k = k v := rd_fv (by kernel_rfl) hv
theorem ff_struct_Vars_int_Clauses_Sl_Sl_int_Clauses : fldOff P 23 1 = some 1 := by kernel_rfl
/-- struct { _ [0]*runtime.PanicNilError } -/
abbrev T.struct___Ar0_P_runtime_PanicNilError : TypeId := 196
theorem ti_struct___Ar0_P_runtime_PanicNilError : TI P 196 [] 0 0 := TI.of (z := (.agg #[])) (by kernel_rfl) rfl
theorem ag_struct___Ar0_P_runtime_PanicNilError : agN P 196 = some 0 := by kernel_rfl
/-- struct { at arena.Ref; lits []int; eyes [2]int; gone bool } -/
abbrev T.struct_at_arena_Ref_lits_Sl_int_eyes_Ar2_int_gone_bool : TypeId := 92
theorem ti_struct_at_arena_Ref_lits_Sl_int_eyes_Ar2_int_gone_bool : TI P 92 [(.int .i64 0), (.slice none 0 0), (.int .i64 0), (.int .i64 0), (.bool false)] 5 56 := TI.of (z := (.agg #[(.int .i64 0), (.slice none 0 0), (.int .i64 0), (.int .i64 0), (.bool false)])) (by kernel_rfl) rfl
theorem ag_struct_at_arena_Ref_lits_Sl_int_eyes_Ar2_int_gone_bool : agN P 92 = some 5 := by kernel_rfl
theorem fa_struct_at_arena_Ref_lits_Sl_int_eyes_Ar2_int_gone_bool_at {h : Heap} {k : Value → Prop} {b o : Nat} : rd P h (Instr.fieldAt 92 (.pointer (some ⟨b, o, none⟩)) 0) k = k (.pointer (some ⟨b, o + 0, none⟩)) := rd_fld (by kernel_rfl)
theorem qfa_struct_at_arena_Ref_lits_Sl_int_eyes_Ar2_int_gone_bool_at {k : Value → Prop} {b o : Nat} : qa P (Instr.fieldAt 92 (.pointer (some ⟨b, o, none⟩)) 0) k = k (.pointer (some ⟨b, o + 0, none⟩)) := qa_fld (by kernel_rfl)
theorem fv_struct_at_arena_Ref_lits_Sl_int_eyes_Ar2_int_gone_bool_at {h : Heap} {k : Value → Prop} {l : List Value} {v : Value} (hv : l[0]? = some v) : rd P h (Instr.field 92 (.agg ⟨l⟩) 0) k = k v := rd_fv (by kernel_rfl) hv
theorem ff_struct_at_arena_Ref_lits_Sl_int_eyes_Ar2_int_gone_bool_at : fldOff P 92 0 = some 0 := by kernel_rfl
theorem fa_struct_at_arena_Ref_lits_Sl_int_eyes_Ar2_int_gone_bool_lits {h : Heap} {k : Value → Prop} {b o : Nat} : rd P h (Instr.fieldAt 92 (.pointer (some ⟨b, o, none⟩)) 1) k = k (.pointer (some ⟨b, o + 1, none⟩)) := rd_fld (by kernel_rfl)
theorem qfa_struct_at_arena_Ref_lits_Sl_int_eyes_Ar2_int_gone_bool_lits {k : Value → Prop} {b o : Nat} : qa P (Instr.fieldAt 92 (.pointer (some ⟨b, o, none⟩)) 1) k = k (.pointer (some ⟨b, o + 1, none⟩)) := qa_fld (by kernel_rfl)
theorem fv_struct_at_arena_Ref_lits_Sl_int_eyes_Ar2_int_gone_bool_lits {h : Heap} {k : Value → Prop} {l : List Value} {v : Value} (hv : l[1]? = some v) : rd P h (Instr.field 92 (.agg ⟨l⟩) 1) k = k v := rd_fv (by kernel_rfl) hv
theorem ff_struct_at_arena_Ref_lits_Sl_int_eyes_Ar2_int_gone_bool_lits : fldOff P 92 1 = some 1 := by kernel_rfl
theorem fa_struct_at_arena_Ref_lits_Sl_int_eyes_Ar2_int_gone_bool_eyes {h : Heap} {k : Value → Prop} {b o : Nat} : rd P h (Instr.fieldAt 92 (.pointer (some ⟨b, o, none⟩)) 2) k = k (.pointer (some ⟨b, o + 2, none⟩)) := rd_fld (by kernel_rfl)
theorem qfa_struct_at_arena_Ref_lits_Sl_int_eyes_Ar2_int_gone_bool_eyes {k : Value → Prop} {b o : Nat} : qa P (Instr.fieldAt 92 (.pointer (some ⟨b, o, none⟩)) 2) k = k (.pointer (some ⟨b, o + 2, none⟩)) := qa_fld (by kernel_rfl)
theorem ff_struct_at_arena_Ref_lits_Sl_int_eyes_Ar2_int_gone_bool_eyes : fldOff P 92 2 = some 2 := by kernel_rfl
theorem fa_struct_at_arena_Ref_lits_Sl_int_eyes_Ar2_int_gone_bool_gone {h : Heap} {k : Value → Prop} {b o : Nat} : rd P h (Instr.fieldAt 92 (.pointer (some ⟨b, o, none⟩)) 3) k = k (.pointer (some ⟨b, o + 4, none⟩)) := rd_fld (by kernel_rfl)
theorem qfa_struct_at_arena_Ref_lits_Sl_int_eyes_Ar2_int_gone_bool_gone {k : Value → Prop} {b o : Nat} : qa P (Instr.fieldAt 92 (.pointer (some ⟨b, o, none⟩)) 3) k = k (.pointer (some ⟨b, o + 4, none⟩)) := qa_fld (by kernel_rfl)
theorem fv_struct_at_arena_Ref_lits_Sl_int_eyes_Ar2_int_gone_bool_gone {h : Heap} {k : Value → Prop} {l : List Value} {v : Value} (hv : l[4]? = some v) : rd P h (Instr.field 92 (.agg ⟨l⟩) 3) k = k v := rd_fv (by kernel_rfl) hv
theorem ff_struct_at_arena_Ref_lits_Sl_int_eyes_Ar2_int_gone_bool_gone : fldOff P 92 3 = some 4 := by kernel_rfl
/-- struct { at int } -/
abbrev T.struct_at_int : TypeId := 134
theorem ti_struct_at_int : TI P 134 [(.int .i64 0)] 1 8 := TI.of (z := (.agg #[(.int .i64 0)])) (by kernel_rfl) rfl
theorem ag_struct_at_int : agN P 134 = some 1 := by kernel_rfl
theorem fa_struct_at_int_at {h : Heap} {k : Value → Prop} {b o : Nat} : rd P h (Instr.fieldAt 134 (.pointer (some ⟨b, o, none⟩)) 0) k = k (.pointer (some ⟨b, o + 0, none⟩)) := rd_fld (by kernel_rfl)
theorem qfa_struct_at_int_at {k : Value → Prop} {b o : Nat} : qa P (Instr.fieldAt 134 (.pointer (some ⟨b, o, none⟩)) 0) k = k (.pointer (some ⟨b, o + 0, none⟩)) := qa_fld (by kernel_rfl)
theorem fv_struct_at_int_at {h : Heap} {k : Value → Prop} {l : List Value} {v : Value} (hv : l[0]? = some v) : rd P h (Instr.field 134 (.agg ⟨l⟩) 0) k = k v := rd_fv (by kernel_rfl) hv
theorem ff_struct_at_int_at : fldOff P 134 0 = some 0 := by kernel_rfl
/-- struct { learnt bool } -/
abbrev T.struct_learnt_bool : TypeId := 130
theorem ti_struct_learnt_bool : TI P 130 [(.bool false)] 1 1 := TI.of (z := (.agg #[(.bool false)])) (by kernel_rfl) rfl
theorem ag_struct_learnt_bool : agN P 130 = some 1 := by kernel_rfl
theorem fa_struct_learnt_bool_learnt {h : Heap} {k : Value → Prop} {b o : Nat} : rd P h (Instr.fieldAt 130 (.pointer (some ⟨b, o, none⟩)) 0) k = k (.pointer (some ⟨b, o + 0, none⟩)) := rd_fld (by kernel_rfl)
theorem qfa_struct_learnt_bool_learnt {k : Value → Prop} {b o : Nat} : qa P (Instr.fieldAt 130 (.pointer (some ⟨b, o, none⟩)) 0) k = k (.pointer (some ⟨b, o + 0, none⟩)) := qa_fld (by kernel_rfl)
theorem fv_struct_learnt_bool_learnt {h : Heap} {k : Value → Prop} {l : List Value} {v : Value} (hv : l[0]? = some v) : rd P h (Instr.field 130 (.agg ⟨l⟩) 0) k = k v := rd_fv (by kernel_rfl) hv
theorem ff_struct_learnt_bool_learnt : fldOff P 130 0 = some 0 := by kernel_rfl
/-- struct { level int; reason int } -/
abbrev T.struct_level_int_reason_int : TypeId := 164
theorem ti_struct_level_int_reason_int : TI P 164 [(.int .i64 0), (.int .i64 0)] 2 16 := TI.of (z := (.agg #[(.int .i64 0), (.int .i64 0)])) (by kernel_rfl) rfl
theorem ag_struct_level_int_reason_int : agN P 164 = some 2 := by kernel_rfl
theorem fa_struct_level_int_reason_int_level {h : Heap} {k : Value → Prop} {b o : Nat} : rd P h (Instr.fieldAt 164 (.pointer (some ⟨b, o, none⟩)) 0) k = k (.pointer (some ⟨b, o + 0, none⟩)) := rd_fld (by kernel_rfl)
theorem qfa_struct_level_int_reason_int_level {k : Value → Prop} {b o : Nat} : qa P (Instr.fieldAt 164 (.pointer (some ⟨b, o, none⟩)) 0) k = k (.pointer (some ⟨b, o + 0, none⟩)) := qa_fld (by kernel_rfl)
theorem fv_struct_level_int_reason_int_level {h : Heap} {k : Value → Prop} {l : List Value} {v : Value} (hv : l[0]? = some v) : rd P h (Instr.field 164 (.agg ⟨l⟩) 0) k = k v := rd_fv (by kernel_rfl) hv
theorem ff_struct_level_int_reason_int_level : fldOff P 164 0 = some 0 := by kernel_rfl
theorem fa_struct_level_int_reason_int_reason {h : Heap} {k : Value → Prop} {b o : Nat} : rd P h (Instr.fieldAt 164 (.pointer (some ⟨b, o, none⟩)) 1) k = k (.pointer (some ⟨b, o + 1, none⟩)) := rd_fld (by kernel_rfl)
theorem qfa_struct_level_int_reason_int_reason {k : Value → Prop} {b o : Nat} : qa P (Instr.fieldAt 164 (.pointer (some ⟨b, o, none⟩)) 1) k = k (.pointer (some ⟨b, o + 1, none⟩)) := qa_fld (by kernel_rfl)
theorem fv_struct_level_int_reason_int_reason {h : Heap} {k : Value → Prop} {l : List Value} {v : Value} (hv : l[1]? = some v) : rd P h (Instr.field 164 (.agg ⟨l⟩) 1) k = k v := rd_fv (by kernel_rfl) hv
theorem ff_struct_level_int_reason_int_reason : fldOff P 164 1 = some 1 := by kernel_rfl
/-- struct { lits []int; at [2]int } -/
abbrev T.struct_lits_Sl_int_at_Ar2_int : TypeId := 117
theorem ti_struct_lits_Sl_int_at_Ar2_int : TI P 117 [(.slice none 0 0), (.int .i64 0), (.int .i64 0)] 3 40 := TI.of (z := (.agg #[(.slice none 0 0), (.int .i64 0), (.int .i64 0)])) (by kernel_rfl) rfl
theorem ag_struct_lits_Sl_int_at_Ar2_int : agN P 117 = some 3 := by kernel_rfl
theorem fa_struct_lits_Sl_int_at_Ar2_int_lits {h : Heap} {k : Value → Prop} {b o : Nat} : rd P h (Instr.fieldAt 117 (.pointer (some ⟨b, o, none⟩)) 0) k = k (.pointer (some ⟨b, o + 0, none⟩)) := rd_fld (by kernel_rfl)
theorem qfa_struct_lits_Sl_int_at_Ar2_int_lits {k : Value → Prop} {b o : Nat} : qa P (Instr.fieldAt 117 (.pointer (some ⟨b, o, none⟩)) 0) k = k (.pointer (some ⟨b, o + 0, none⟩)) := qa_fld (by kernel_rfl)
theorem fv_struct_lits_Sl_int_at_Ar2_int_lits {h : Heap} {k : Value → Prop} {l : List Value} {v : Value} (hv : l[0]? = some v) : rd P h (Instr.field 117 (.agg ⟨l⟩) 0) k = k v := rd_fv (by kernel_rfl) hv
theorem ff_struct_lits_Sl_int_at_Ar2_int_lits : fldOff P 117 0 = some 0 := by kernel_rfl
theorem fa_struct_lits_Sl_int_at_Ar2_int_at {h : Heap} {k : Value → Prop} {b o : Nat} : rd P h (Instr.fieldAt 117 (.pointer (some ⟨b, o, none⟩)) 1) k = k (.pointer (some ⟨b, o + 1, none⟩)) := rd_fld (by kernel_rfl)
theorem qfa_struct_lits_Sl_int_at_Ar2_int_at {k : Value → Prop} {b o : Nat} : qa P (Instr.fieldAt 117 (.pointer (some ⟨b, o, none⟩)) 1) k = k (.pointer (some ⟨b, o + 1, none⟩)) := qa_fld (by kernel_rfl)
theorem ff_struct_lits_Sl_int_at_Ar2_int_at : fldOff P 117 1 = some 1 := by kernel_rfl
/-- struct { msg string; addr uintptr } -/
abbrev T.struct_msg_string_addr_uintptr : TypeId := 13
theorem ti_struct_msg_string_addr_uintptr : TI P 13 [(.string .empty), (.int .u64 0)] 2 24 := TI.of (z := (.agg #[(.string .empty), (.int .u64 0)])) (by kernel_rfl) rfl
theorem ag_struct_msg_string_addr_uintptr : agN P 13 = some 2 := by kernel_rfl
theorem fa_struct_msg_string_addr_uintptr_msg {h : Heap} {k : Value → Prop} {b o : Nat} : rd P h (Instr.fieldAt 13 (.pointer (some ⟨b, o, none⟩)) 0) k = k (.pointer (some ⟨b, o + 0, none⟩)) := rd_fld (by kernel_rfl)
theorem qfa_struct_msg_string_addr_uintptr_msg {k : Value → Prop} {b o : Nat} : qa P (Instr.fieldAt 13 (.pointer (some ⟨b, o, none⟩)) 0) k = k (.pointer (some ⟨b, o + 0, none⟩)) := qa_fld (by kernel_rfl)
theorem fv_struct_msg_string_addr_uintptr_msg {h : Heap} {k : Value → Prop} {l : List Value} {v : Value} (hv : l[0]? = some v) : rd P h (Instr.field 13 (.agg ⟨l⟩) 0) k = k v := rd_fv (by kernel_rfl) hv
theorem ff_struct_msg_string_addr_uintptr_msg : fldOff P 13 0 = some 0 := by kernel_rfl
theorem fa_struct_msg_string_addr_uintptr_addr {h : Heap} {k : Value → Prop} {b o : Nat} : rd P h (Instr.fieldAt 13 (.pointer (some ⟨b, o, none⟩)) 1) k = k (.pointer (some ⟨b, o + 1, none⟩)) := rd_fld (by kernel_rfl)
theorem qfa_struct_msg_string_addr_uintptr_addr {k : Value → Prop} {b o : Nat} : qa P (Instr.fieldAt 13 (.pointer (some ⟨b, o, none⟩)) 1) k = k (.pointer (some ⟨b, o + 1, none⟩)) := qa_fld (by kernel_rfl)
theorem fv_struct_msg_string_addr_uintptr_addr {h : Heap} {k : Value → Prop} {l : List Value} {v : Value} (hv : l[1]? = some v) : rd P h (Instr.field 13 (.agg ⟨l⟩) 1) k = k v := rd_fv (by kernel_rfl) hv
theorem ff_struct_msg_string_addr_uintptr_addr : fldOff P 13 1 = some 1 := by kernel_rfl
/-- struct { steps []api.Step } -/
abbrev T.struct_steps_Sl_api_Step : TypeId := 80
theorem ti_struct_steps_Sl_api_Step : TI P 80 [(.slice none 0 0)] 1 24 := TI.of (z := (.agg #[(.slice none 0 0)])) (by kernel_rfl) rfl
theorem ag_struct_steps_Sl_api_Step : agN P 80 = some 1 := by kernel_rfl
theorem fa_struct_steps_Sl_api_Step_steps {h : Heap} {k : Value → Prop} {b o : Nat} : rd P h (Instr.fieldAt 80 (.pointer (some ⟨b, o, none⟩)) 0) k = k (.pointer (some ⟨b, o + 0, none⟩)) := rd_fld (by kernel_rfl)
theorem qfa_struct_steps_Sl_api_Step_steps {k : Value → Prop} {b o : Nat} : qa P (Instr.fieldAt 80 (.pointer (some ⟨b, o, none⟩)) 0) k = k (.pointer (some ⟨b, o + 0, none⟩)) := qa_fld (by kernel_rfl)
theorem fv_struct_steps_Sl_api_Step_steps {h : Heap} {k : Value → Prop} {l : List Value} {v : Value} (hv : l[0]? = some v) : rd P h (Instr.field 80 (.agg ⟨l⟩) 0) k = k v := rd_fv (by kernel_rfl) hv
theorem ff_struct_steps_Sl_api_Step_steps : fldOff P 80 0 = some 0 := by kernel_rfl
/-- struct { trail.start } -/
abbrev T.struct_trail_start : TypeId := 136
theorem ti_struct_trail_start : TI P 136 [(.int .i64 0)] 1 8 := TI.of (z := (.agg #[(.int .i64 0)])) (by kernel_rfl) rfl
theorem ag_struct_trail_start : agN P 136 = some 1 := by kernel_rfl
theorem fa_struct_trail_start_start {h : Heap} {k : Value → Prop} {b o : Nat} : rd P h (Instr.fieldAt 136 (.pointer (some ⟨b, o, none⟩)) 0) k = k (.pointer (some ⟨b, o + 0, none⟩)) := rd_fld (by kernel_rfl)
theorem qfa_struct_trail_start_start {k : Value → Prop} {b o : Nat} : qa P (Instr.fieldAt 136 (.pointer (some ⟨b, o, none⟩)) 0) k = k (.pointer (some ⟨b, o + 0, none⟩)) := qa_fld (by kernel_rfl)
theorem ff_struct_trail_start_start : fldOff P 136 0 = some 0 := by kernel_rfl
/-- struct { typ *abi.Type } -/
abbrev T.struct_typ_P_abi_Type : TypeId := 18
theorem ti_struct_typ_P_abi_Type : TI P 18 [(.pointer none)] 1 8 := TI.of (z := (.agg #[(.pointer none)])) (by kernel_rfl) rfl
theorem ag_struct_typ_P_abi_Type : agN P 18 = some 1 := by kernel_rfl
theorem fa_struct_typ_P_abi_Type_typ {h : Heap} {k : Value → Prop} {b o : Nat} : rd P h (Instr.fieldAt 18 (.pointer (some ⟨b, o, none⟩)) 0) k = k (.pointer (some ⟨b, o + 0, none⟩)) := rd_fld (by kernel_rfl)
theorem qfa_struct_typ_P_abi_Type_typ {k : Value → Prop} {b o : Nat} : qa P (Instr.fieldAt 18 (.pointer (some ⟨b, o, none⟩)) 0) k = k (.pointer (some ⟨b, o + 0, none⟩)) := qa_fld (by kernel_rfl)
theorem fv_struct_typ_P_abi_Type_typ {h : Heap} {k : Value → Prop} {l : List Value} {v : Value} (hv : l[0]? = some v) : rd P h (Instr.field 18 (.agg ⟨l⟩) 0) k = k v := rd_fv (by kernel_rfl) hv
theorem ff_struct_typ_P_abi_Type_typ : fldOff P 18 0 = some 0 := by kernel_rfl
/-- trail.Trail -/
abbrev T.trail_Trail : TypeId := 125
theorem ti_trail_Trail : TI P 125 [(.slice none 0 0), (.slice none 0 0), (.slice none 0 0), (.slice none 0 0)] 4 96 := TI.of (z := (.agg #[(.slice none 0 0), (.slice none 0 0), (.slice none 0 0), (.slice none 0 0)])) (by kernel_rfl) rfl
theorem ag_trail_Trail : agN P 125 = some 4 := by kernel_rfl
theorem bi_trail_Trail : bldInfo P 125 = some (#[(.slice none 0 0), (.slice none 0 0), (.slice none 0 0), (.slice none 0 0)], #[(0, 1), (1, 1), (2, 1), (3, 1)]) := by kernel_rfl
theorem bd_trail_Trail_2_3 {h : Heap} {k : Value → Prop} {v2 v3 : Value} (h2 : sc1 v2 = true) (h3 : sc1 v3 = true) : rd P h (Instr.build 125 #[(2, v2), (3, v3)]) k = k (.agg #[(.slice none 0 0), (.slice none 0 0), v2, v3]) := rd_bld bi_trail_Trail (by simp [Instr.fill, sc1_cells h2, sc1_cells h3, cells_agg])
theorem qbd_trail_Trail_2_3 {k : Value → Prop} {v2 v3 : Value} (h2 : sc1 v2 = true) (h3 : sc1 v3 = true) : qa P (Instr.build 125 #[(2, v2), (3, v3)]) k = k (.agg #[(.slice none 0 0), (.slice none 0 0), v2, v3]) := qa_bld bi_trail_Trail (by simp [Instr.fill, sc1_cells h2, sc1_cells h3, cells_agg])
theorem fa_trail_Trail_row {h : Heap} {k : Value → Prop} {b o : Nat} : rd P h (Instr.fieldAt 125 (.pointer (some ⟨b, o, none⟩)) 0) k = k (.pointer (some ⟨b, o + 0, none⟩)) := rd_fld (by kernel_rfl)
theorem qfa_trail_Trail_row {k : Value → Prop} {b o : Nat} : qa P (Instr.fieldAt 125 (.pointer (some ⟨b, o, none⟩)) 0) k = k (.pointer (some ⟨b, o + 0, none⟩)) := qa_fld (by kernel_rfl)
theorem fv_trail_Trail_row {h : Heap} {k : Value → Prop} {l : List Value} {v : Value} (hv : l[0]? = some v) : rd P h (Instr.field 125 (.agg ⟨l⟩) 0) k = k v := rd_fv (by kernel_rfl) hv
theorem ff_trail_Trail_row : fldOff P 125 0 = some 0 := by kernel_rfl
theorem fa_trail_Trail_levels {h : Heap} {k : Value → Prop} {b o : Nat} : rd P h (Instr.fieldAt 125 (.pointer (some ⟨b, o, none⟩)) 1) k = k (.pointer (some ⟨b, o + 1, none⟩)) := rd_fld (by kernel_rfl)
theorem qfa_trail_Trail_levels {k : Value → Prop} {b o : Nat} : qa P (Instr.fieldAt 125 (.pointer (some ⟨b, o, none⟩)) 1) k = k (.pointer (some ⟨b, o + 1, none⟩)) := qa_fld (by kernel_rfl)
theorem fv_trail_Trail_levels {h : Heap} {k : Value → Prop} {l : List Value} {v : Value} (hv : l[1]? = some v) : rd P h (Instr.field 125 (.agg ⟨l⟩) 1) k = k v := rd_fv (by kernel_rfl) hv
theorem ff_trail_Trail_levels : fldOff P 125 1 = some 1 := by kernel_rfl
theorem fa_trail_Trail_values {h : Heap} {k : Value → Prop} {b o : Nat} : rd P h (Instr.fieldAt 125 (.pointer (some ⟨b, o, none⟩)) 2) k = k (.pointer (some ⟨b, o + 2, none⟩)) := rd_fld (by kernel_rfl)
theorem qfa_trail_Trail_values {k : Value → Prop} {b o : Nat} : qa P (Instr.fieldAt 125 (.pointer (some ⟨b, o, none⟩)) 2) k = k (.pointer (some ⟨b, o + 2, none⟩)) := qa_fld (by kernel_rfl)
theorem fv_trail_Trail_values {h : Heap} {k : Value → Prop} {l : List Value} {v : Value} (hv : l[2]? = some v) : rd P h (Instr.field 125 (.agg ⟨l⟩) 2) k = k v := rd_fv (by kernel_rfl) hv
theorem ff_trail_Trail_values : fldOff P 125 2 = some 2 := by kernel_rfl
theorem fa_trail_Trail_tolds {h : Heap} {k : Value → Prop} {b o : Nat} : rd P h (Instr.fieldAt 125 (.pointer (some ⟨b, o, none⟩)) 3) k = k (.pointer (some ⟨b, o + 3, none⟩)) := rd_fld (by kernel_rfl)
theorem qfa_trail_Trail_tolds {k : Value → Prop} {b o : Nat} : qa P (Instr.fieldAt 125 (.pointer (some ⟨b, o, none⟩)) 3) k = k (.pointer (some ⟨b, o + 3, none⟩)) := qa_fld (by kernel_rfl)
theorem fv_trail_Trail_tolds {h : Heap} {k : Value → Prop} {l : List Value} {v : Value} (hv : l[3]? = some v) : rd P h (Instr.field 125 (.agg ⟨l⟩) 3) k = k v := rd_fv (by kernel_rfl) hv
theorem ff_trail_Trail_tolds : fldOff P 125 3 = some 3 := by kernel_rfl
/-- trail.level -/
abbrev T.trail_level : TypeId := 137
theorem ti_trail_level : TI P 137 [(.int .i64 0)] 1 8 := TI.of (z := (.agg #[(.int .i64 0)])) (by kernel_rfl) rfl
theorem ag_trail_level : agN P 137 = some 1 := by kernel_rfl
theorem bi_trail_level : bldInfo P 137 = some (#[(.int .i64 0)], #[(0, 1)]) := by kernel_rfl
theorem bd_trail_level_0 {h : Heap} {k : Value → Prop} {v0_0 : Value} : rd P h (Instr.build 137 #[(0, .agg #[v0_0])]) k = k (.agg #[v0_0]) := rd_bld bi_trail_level (by simp [Instr.fill, cells_agg])
theorem qbd_trail_level_0 {k : Value → Prop} {v0_0 : Value} : qa P (Instr.build 137 #[(0, .agg #[v0_0])]) k = k (.agg #[v0_0]) := qa_bld bi_trail_level (by simp [Instr.fill, cells_agg])
theorem fa_trail_level_start {h : Heap} {k : Value → Prop} {b o : Nat} : rd P h (Instr.fieldAt 137 (.pointer (some ⟨b, o, none⟩)) 0) k = k (.pointer (some ⟨b, o + 0, none⟩)) := rd_fld (by kernel_rfl)
theorem qfa_trail_level_start {k : Value → Prop} {b o : Nat} : qa P (Instr.fieldAt 137 (.pointer (some ⟨b, o, none⟩)) 0) k = k (.pointer (some ⟨b, o + 0, none⟩)) := qa_fld (by kernel_rfl)
theorem ff_trail_level_start : fldOff P 137 0 = some 0 := by kernel_rfl
/-- trail.start -/
abbrev T.trail_start : TypeId := 135
theorem ti_trail_start : TI P 135 [(.int .i64 0)] 1 8 := TI.of (z := (.agg #[(.int .i64 0)])) (by kernel_rfl) rfl
theorem ag_trail_start : agN P 135 = some 1 := by kernel_rfl
theorem bi_trail_start : bldInfo P 135 = some (#[(.int .i64 0)], #[(0, 1)]) := by kernel_rfl
theorem bd_trail_start_0 {h : Heap} {k : Value → Prop} {v0 : Value} (h0 : sc1 v0 = true) : rd P h (Instr.build 135 #[(0, v0)]) k = k (.agg #[v0]) := rd_bld bi_trail_start (by simp [Instr.fill, sc1_cells h0, cells_agg])
theorem qbd_trail_start_0 {k : Value → Prop} {v0 : Value} (h0 : sc1 v0 = true) : qa P (Instr.build 135 #[(0, v0)]) k = k (.agg #[v0]) := qa_bld bi_trail_start (by simp [Instr.fill, sc1_cells h0, cells_agg])
theorem fa_trail_start_at {h : Heap} {k : Value → Prop} {b o : Nat} : rd P h (Instr.fieldAt 135 (.pointer (some ⟨b, o, none⟩)) 0) k = k (.pointer (some ⟨b, o + 0, none⟩)) := rd_fld (by kernel_rfl)
theorem qfa_trail_start_at {k : Value → Prop} {b o : Nat} : qa P (Instr.fieldAt 135 (.pointer (some ⟨b, o, none⟩)) 0) k = k (.pointer (some ⟨b, o + 0, none⟩)) := qa_fld (by kernel_rfl)
theorem fv_trail_start_at {h : Heap} {k : Value → Prop} {l : List Value} {v : Value} (hv : l[0]? = some v) : rd P h (Instr.field 135 (.agg ⟨l⟩) 0) k = k v := rd_fv (by kernel_rfl) hv
theorem ff_trail_start_at : fldOff P 135 0 = some 0 := by kernel_rfl
/-- trail.told -/
abbrev T.trail_told : TypeId := 165
theorem ti_trail_told : TI P 165 [(.int .i64 0), (.int .i64 0)] 2 16 := TI.of (z := (.agg #[(.int .i64 0), (.int .i64 0)])) (by kernel_rfl) rfl
theorem ag_trail_told : agN P 165 = some 2 := by kernel_rfl
theorem bi_trail_told : bldInfo P 165 = some (#[(.int .i64 0), (.int .i64 0)], #[(0, 1), (1, 1)]) := by kernel_rfl
theorem bd_trail_told_ {h : Heap} {k : Value → Prop} : rd P h (Instr.build 165 #[]) k = k (.agg #[(.int .i64 0), (.int .i64 0)]) := rd_bld bi_trail_told (by simp [Instr.fill, cells_agg])
theorem qbd_trail_told_ {k : Value → Prop} : qa P (Instr.build 165 #[]) k = k (.agg #[(.int .i64 0), (.int .i64 0)]) := qa_bld bi_trail_told (by simp [Instr.fill, cells_agg])
theorem bd_trail_told_0_1 {h : Heap} {k : Value → Prop} {v0 v1 : Value} (h0 : sc1 v0 = true) (h1 : sc1 v1 = true) : rd P h (Instr.build 165 #[(0, v0), (1, v1)]) k = k (.agg #[v0, v1]) := rd_bld bi_trail_told (by simp [Instr.fill, sc1_cells h0, sc1_cells h1, cells_agg])
theorem qbd_trail_told_0_1 {k : Value → Prop} {v0 v1 : Value} (h0 : sc1 v0 = true) (h1 : sc1 v1 = true) : qa P (Instr.build 165 #[(0, v0), (1, v1)]) k = k (.agg #[v0, v1]) := qa_bld bi_trail_told (by simp [Instr.fill, sc1_cells h0, sc1_cells h1, cells_agg])
theorem fa_trail_told_level {h : Heap} {k : Value → Prop} {b o : Nat} : rd P h (Instr.fieldAt 165 (.pointer (some ⟨b, o, none⟩)) 0) k = k (.pointer (some ⟨b, o + 0, none⟩)) := rd_fld (by kernel_rfl)
theorem qfa_trail_told_level {k : Value → Prop} {b o : Nat} : qa P (Instr.fieldAt 165 (.pointer (some ⟨b, o, none⟩)) 0) k = k (.pointer (some ⟨b, o + 0, none⟩)) := qa_fld (by kernel_rfl)
theorem fv_trail_told_level {h : Heap} {k : Value → Prop} {l : List Value} {v : Value} (hv : l[0]? = some v) : rd P h (Instr.field 165 (.agg ⟨l⟩) 0) k = k v := rd_fv (by kernel_rfl) hv
theorem ff_trail_told_level : fldOff P 165 0 = some 0 := by kernel_rfl
theorem fa_trail_told_reason {h : Heap} {k : Value → Prop} {b o : Nat} : rd P h (Instr.fieldAt 165 (.pointer (some ⟨b, o, none⟩)) 1) k = k (.pointer (some ⟨b, o + 1, none⟩)) := rd_fld (by kernel_rfl)
theorem qfa_trail_told_reason {k : Value → Prop} {b o : Nat} : qa P (Instr.fieldAt 165 (.pointer (some ⟨b, o, none⟩)) 1) k = k (.pointer (some ⟨b, o + 1, none⟩)) := qa_fld (by kernel_rfl)
theorem fv_trail_told_reason {h : Heap} {k : Value → Prop} {l : List Value} {v : Value} (hv : l[1]? = some v) : rd P h (Instr.field 165 (.agg ⟨l⟩) 1) k = k v := rd_fv (by kernel_rfl) hv
theorem ff_trail_told_reason : fldOff P 165 1 = some 1 := by kernel_rfl
/-- uint -/
abbrev T.uint : TypeId := 163
theorem ti_uint : TI P 163 [(.int .u64 0)] 1 8 := TI.of (z := (.int .u64 0)) (by kernel_rfl) rfl
theorem sc_uint : scT P 163 = true := by kernel_rfl
/-- uint32 -/
abbrev T.uint32 : TypeId := 178
theorem ti_uint32 : TI P 178 [(.int .u32 0)] 1 4 := TI.of (z := (.int .u32 0)) (by kernel_rfl) rfl
theorem sc_uint32 : scT P 178 = true := by kernel_rfl
/-- uint64 -/
abbrev T.uint64 : TypeId := 180
theorem ti_uint64 : TI P 180 [(.int .u64 0)] 1 8 := TI.of (z := (.int .u64 0)) (by kernel_rfl) rfl
theorem sc_uint64 : scT P 180 = true := by kernel_rfl
/-- uint8 -/
abbrev T.uint8 : TypeId := 5
theorem ti_uint8 : TI P 5 [(.int .u8 0)] 1 1 := TI.of (z := (.int .u8 0)) (by kernel_rfl) rfl
theorem sc_uint8 : scT P 5 = true := by kernel_rfl
/-- uintptr -/
abbrev T.uintptr : TypeId := 12
theorem ti_uintptr : TI P 12 [(.int .u64 0)] 1 8 := TI.of (z := (.int .u64 0)) (by kernel_rfl) rfl
theorem sc_uintptr : scT P 12 = true := by kernel_rfl
/-- unsafe.Pointer -/
abbrev T.unsafe_Pointer : TypeId := 207
theorem ti_unsafe_Pointer : TI P 207 [(.pointer none)] 1 8 := TI.of (z := (.pointer none)) (by kernel_rfl) rfl
theorem sc_unsafe_Pointer : scT P 207 = true := by kernel_rfl
/-- watch.Watch -/
abbrev T.watch_Watch : TypeId := 65
theorem ti_watch_Watch : TI P 65 [(.slice none 0 0), (.slice none 0 0), (.slice none 0 0), (.int .i64 0), (.slice none 0 0), (.slice none 0 0), (.bool false), (.bool false)] 8 136 := TI.of (z := (.agg #[(.slice none 0 0), (.slice none 0 0), (.slice none 0 0), (.int .i64 0), (.slice none 0 0), (.slice none 0 0), (.bool false), (.bool false)])) (by kernel_rfl) rfl
theorem ag_watch_Watch : agN P 65 = some 8 := by kernel_rfl
theorem bi_watch_Watch : bldInfo P 65 = some (#[(.slice none 0 0), (.slice none 0 0), (.slice none 0 0), (.int .i64 0), (.slice none 0 0), (.slice none 0 0), (.bool false), (.bool false)], #[(0, 1), (1, 1), (2, 1), (3, 1), (4, 1), (5, 1), (6, 1), (7, 1)]) := by kernel_rfl
theorem bd_watch_Watch_0_4 {h : Heap} {k : Value → Prop} {v0 v4 : Value} (h0 : sc1 v0 = true) (h4 : sc1 v4 = true) : rd P h (Instr.build 65 #[(0, v0), (4, v4)]) k = k (.agg #[v0, (.slice none 0 0), (.slice none 0 0), (.int .i64 0), v4, (.slice none 0 0), (.bool false), (.bool false)]) := rd_bld bi_watch_Watch (by simp [Instr.fill, sc1_cells h0, sc1_cells h4, cells_agg])
theorem qbd_watch_Watch_0_4 {k : Value → Prop} {v0 v4 : Value} (h0 : sc1 v0 = true) (h4 : sc1 v4 = true) : qa P (Instr.build 65 #[(0, v0), (4, v4)]) k = k (.agg #[v0, (.slice none 0 0), (.slice none 0 0), (.int .i64 0), v4, (.slice none 0 0), (.bool false), (.bool false)]) := qa_bld bi_watch_Watch (by simp [Instr.fill, sc1_cells h0, sc1_cells h4, cells_agg])
theorem fa_watch_Watch_value {h : Heap} {k : Value → Prop} {b o : Nat} : rd P h (Instr.fieldAt 65 (.pointer (some ⟨b, o, none⟩)) 0) k = k (.pointer (some ⟨b, o + 0, none⟩)) := rd_fld (by kernel_rfl)
theorem qfa_watch_Watch_value {k : Value → Prop} {b o : Nat} : qa P (Instr.fieldAt 65 (.pointer (some ⟨b, o, none⟩)) 0) k = k (.pointer (some ⟨b, o + 0, none⟩)) := qa_fld (by kernel_rfl)
theorem fv_watch_Watch_value {h : Heap} {k : Value → Prop} {l : List Value} {v : Value} (hv : l[0]? = some v) : rd P h (Instr.field 65 (.agg ⟨l⟩) 0) k = k v := rd_fv (by kernel_rfl) hv
theorem ff_watch_Watch_value : fldOff P 65 0 = some 0 := by kernel_rfl
theorem fa_watch_Watch_trail {h : Heap} {k : Value → Prop} {b o : Nat} : rd P h (Instr.fieldAt 65 (.pointer (some ⟨b, o, none⟩)) 1) k = k (.pointer (some ⟨b, o + 1, none⟩)) := rd_fld (by kernel_rfl)
theorem qfa_watch_Watch_trail {k : Value → Prop} {b o : Nat} : qa P (Instr.fieldAt 65 (.pointer (some ⟨b, o, none⟩)) 1) k = k (.pointer (some ⟨b, o + 1, none⟩)) := qa_fld (by kernel_rfl)
theorem fv_watch_Watch_trail {h : Heap} {k : Value → Prop} {l : List Value} {v : Value} (hv : l[1]? = some v) : rd P h (Instr.field 65 (.agg ⟨l⟩) 1) k = k v := rd_fv (by kernel_rfl) hv
theorem ff_watch_Watch_trail : fldOff P 65 1 = some 1 := by kernel_rfl
theorem fa_watch_Watch_starts {h : Heap} {k : Value → Prop} {b o : Nat} : rd P h (Instr.fieldAt 65 (.pointer (some ⟨b, o, none⟩)) 2) k = k (.pointer (some ⟨b, o + 2, none⟩)) := rd_fld (by kernel_rfl)
theorem qfa_watch_Watch_starts {k : Value → Prop} {b o : Nat} : qa P (Instr.fieldAt 65 (.pointer (some ⟨b, o, none⟩)) 2) k = k (.pointer (some ⟨b, o + 2, none⟩)) := qa_fld (by kernel_rfl)
theorem fv_watch_Watch_starts {h : Heap} {k : Value → Prop} {l : List Value} {v : Value} (hv : l[2]? = some v) : rd P h (Instr.field 65 (.agg ⟨l⟩) 2) k = k v := rd_fv (by kernel_rfl) hv
theorem ff_watch_Watch_starts : fldOff P 65 2 = some 2 := by kernel_rfl
theorem fa_watch_Watch_head {h : Heap} {k : Value → Prop} {b o : Nat} : rd P h (Instr.fieldAt 65 (.pointer (some ⟨b, o, none⟩)) 3) k = k (.pointer (some ⟨b, o + 3, none⟩)) := rd_fld (by kernel_rfl)
theorem qfa_watch_Watch_head {k : Value → Prop} {b o : Nat} : qa P (Instr.fieldAt 65 (.pointer (some ⟨b, o, none⟩)) 3) k = k (.pointer (some ⟨b, o + 3, none⟩)) := qa_fld (by kernel_rfl)
theorem fv_watch_Watch_head {h : Heap} {k : Value → Prop} {l : List Value} {v : Value} (hv : l[3]? = some v) : rd P h (Instr.field 65 (.agg ⟨l⟩) 3) k = k v := rd_fv (by kernel_rfl) hv
theorem ff_watch_Watch_head : fldOff P 65 3 = some 3 := by kernel_rfl
theorem fa_watch_Watch_lists {h : Heap} {k : Value → Prop} {b o : Nat} : rd P h (Instr.fieldAt 65 (.pointer (some ⟨b, o, none⟩)) 4) k = k (.pointer (some ⟨b, o + 4, none⟩)) := rd_fld (by kernel_rfl)
theorem qfa_watch_Watch_lists {k : Value → Prop} {b o : Nat} : qa P (Instr.fieldAt 65 (.pointer (some ⟨b, o, none⟩)) 4) k = k (.pointer (some ⟨b, o + 4, none⟩)) := qa_fld (by kernel_rfl)
theorem fv_watch_Watch_lists {h : Heap} {k : Value → Prop} {l : List Value} {v : Value} (hv : l[4]? = some v) : rd P h (Instr.field 65 (.agg ⟨l⟩) 4) k = k v := rd_fv (by kernel_rfl) hv
theorem ff_watch_Watch_lists : fldOff P 65 4 = some 4 := by kernel_rfl
theorem fa_watch_Watch_loose {h : Heap} {k : Value → Prop} {b o : Nat} : rd P h (Instr.fieldAt 65 (.pointer (some ⟨b, o, none⟩)) 5) k = k (.pointer (some ⟨b, o + 5, none⟩)) := rd_fld (by kernel_rfl)
theorem qfa_watch_Watch_loose {k : Value → Prop} {b o : Nat} : qa P (Instr.fieldAt 65 (.pointer (some ⟨b, o, none⟩)) 5) k = k (.pointer (some ⟨b, o + 5, none⟩)) := qa_fld (by kernel_rfl)
theorem fv_watch_Watch_loose {h : Heap} {k : Value → Prop} {l : List Value} {v : Value} (hv : l[5]? = some v) : rd P h (Instr.field 65 (.agg ⟨l⟩) 5) k = k v := rd_fv (by kernel_rfl) hv
theorem ff_watch_Watch_loose : fldOff P 65 5 = some 5 := by kernel_rfl
theorem fa_watch_Watch_rest {h : Heap} {k : Value → Prop} {b o : Nat} : rd P h (Instr.fieldAt 65 (.pointer (some ⟨b, o, none⟩)) 6) k = k (.pointer (some ⟨b, o + 6, none⟩)) := rd_fld (by kernel_rfl)
theorem qfa_watch_Watch_rest {k : Value → Prop} {b o : Nat} : qa P (Instr.fieldAt 65 (.pointer (some ⟨b, o, none⟩)) 6) k = k (.pointer (some ⟨b, o + 6, none⟩)) := qa_fld (by kernel_rfl)
theorem fv_watch_Watch_rest {h : Heap} {k : Value → Prop} {l : List Value} {v : Value} (hv : l[6]? = some v) : rd P h (Instr.field 65 (.agg ⟨l⟩) 6) k = k v := rd_fv (by kernel_rfl) hv
theorem ff_watch_Watch_rest : fldOff P 65 6 = some 6 := by kernel_rfl
theorem fa_watch_Watch_clash {h : Heap} {k : Value → Prop} {b o : Nat} : rd P h (Instr.fieldAt 65 (.pointer (some ⟨b, o, none⟩)) 7) k = k (.pointer (some ⟨b, o + 7, none⟩)) := rd_fld (by kernel_rfl)
theorem qfa_watch_Watch_clash {k : Value → Prop} {b o : Nat} : qa P (Instr.fieldAt 65 (.pointer (some ⟨b, o, none⟩)) 7) k = k (.pointer (some ⟨b, o + 7, none⟩)) := qa_fld (by kernel_rfl)
theorem fv_watch_Watch_clash {h : Heap} {k : Value → Prop} {l : List Value} {v : Value} (hv : l[7]? = some v) : rd P h (Instr.field 65 (.agg ⟨l⟩) 7) k = k v := rd_fv (by kernel_rfl) hv
theorem ff_watch_Watch_clash : fldOff P 65 7 = some 7 := by kernel_rfl
/-- watch.held -/
abbrev T.watch_held : TypeId := 118
theorem ti_watch_held : TI P 118 [(.slice none 0 0), (.int .i64 0), (.int .i64 0)] 3 40 := TI.of (z := (.agg #[(.slice none 0 0), (.int .i64 0), (.int .i64 0)])) (by kernel_rfl) rfl
theorem ag_watch_held : agN P 118 = some 3 := by kernel_rfl
theorem bi_watch_held : bldInfo P 118 = some (#[(.slice none 0 0), (.int .i64 0), (.int .i64 0)], #[(0, 1), (1, 2)]) := by kernel_rfl
theorem bd_watch_held_0 {h : Heap} {k : Value → Prop} {v0 : Value} (h0 : sc1 v0 = true) : rd P h (Instr.build 118 #[(0, v0)]) k = k (.agg #[v0, (.int .i64 0), (.int .i64 0)]) := rd_bld bi_watch_held (by simp [Instr.fill, sc1_cells h0, cells_agg])
theorem qbd_watch_held_0 {k : Value → Prop} {v0 : Value} (h0 : sc1 v0 = true) : qa P (Instr.build 118 #[(0, v0)]) k = k (.agg #[v0, (.int .i64 0), (.int .i64 0)]) := qa_bld bi_watch_held (by simp [Instr.fill, sc1_cells h0, cells_agg])
theorem fa_watch_held_lits {h : Heap} {k : Value → Prop} {b o : Nat} : rd P h (Instr.fieldAt 118 (.pointer (some ⟨b, o, none⟩)) 0) k = k (.pointer (some ⟨b, o + 0, none⟩)) := rd_fld (by kernel_rfl)
theorem qfa_watch_held_lits {k : Value → Prop} {b o : Nat} : qa P (Instr.fieldAt 118 (.pointer (some ⟨b, o, none⟩)) 0) k = k (.pointer (some ⟨b, o + 0, none⟩)) := qa_fld (by kernel_rfl)
theorem fv_watch_held_lits {h : Heap} {k : Value → Prop} {l : List Value} {v : Value} (hv : l[0]? = some v) : rd P h (Instr.field 118 (.agg ⟨l⟩) 0) k = k v := rd_fv (by kernel_rfl) hv
theorem ff_watch_held_lits : fldOff P 118 0 = some 0 := by kernel_rfl
theorem fa_watch_held_at {h : Heap} {k : Value → Prop} {b o : Nat} : rd P h (Instr.fieldAt 118 (.pointer (some ⟨b, o, none⟩)) 1) k = k (.pointer (some ⟨b, o + 1, none⟩)) := rd_fld (by kernel_rfl)
theorem qfa_watch_held_at {k : Value → Prop} {b o : Nat} : qa P (Instr.fieldAt 118 (.pointer (some ⟨b, o, none⟩)) 1) k = k (.pointer (some ⟨b, o + 1, none⟩)) := qa_fld (by kernel_rfl)
theorem ff_watch_held_at : fldOff P 118 1 = some 1 := by kernel_rfl
end Go.Proofs.Ytihbhklcnbdijaa
