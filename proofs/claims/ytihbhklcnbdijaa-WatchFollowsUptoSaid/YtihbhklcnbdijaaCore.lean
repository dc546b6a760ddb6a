/- The walk's own calculus: a predicate 'cwp' that says, of a function's code, what must hold of the memory for a run of it to end well; and that it is sound. Nothing of the program stands here. -/
import Derived.Orders
import Derived.OrdersHeld
import Derived.Below
import Derived.Barred
import Derived.KernelRfl
import Derived.Tactics
namespace Go.Proofs.Ytihbhklcnbdijaa
open Go

abbrev Heap := Array Obj
abbrev Fr := Nat → Value

/-- What no call of ours turns: the outside world, the tape, the streams. -/
structure Sm (w w' : World) : Prop where
  os : w'.os = w.os
  tape : w'.tape = w.tape
  output : w'.output = w.output
  drawn : w.drawn ≤ w'.drawn
theorem Sm.refl (w : World) : Sm w w := ⟨rfl, rfl, rfl, Nat.le_refl _⟩
theorem Sm.trans {a b c : World} (h : Sm a b) (k : Sm b c) : Sm a c := ⟨k.os.trans h.os, k.tape.trans h.tape, k.output.trans h.output, Nat.le_trans h.drawn k.drawn⟩
theorem Sm.drew1 (w : World) : Sm w { w with drawn := w.drawn + 1 } := ⟨rfl, rfl, rfl, Nat.le_succ _⟩

/-- An instruction, from a heap: it yields a value, and the rest holds of it and of the heap then. -/
def sem (P : Program) {α : Type} (s : Sem α) (h : Heap) (k : α → Heap → Prop) : Prop :=
  ∀ w : World, w.heap = h → ∃ v w', s.run P w = .ok v w' ∧ Sm w w' ∧ k v w'.heap
/-- It reads: it yields this value and turns nothing. -/
def Rd (P : Program) {α : Type} (h : Heap) (s : Sem α) (v : α) : Prop := ∀ w : World, w.heap = h → s.run P w = .ok v w
theorem sem_rd {P : Program} {α : Type} {s : Sem α} {h : Heap} {k : α → Heap → Prop} {v : α} (hr : Rd P h s v) (hk : k v h) : sem P s h k :=
  fun w hw => ⟨v, w, hr w hw, Sm.refl w, hw ▸ hk⟩
/-- It reads one value, and the rest holds of that. -/
def rd (P : Program) (h : Heap) (s : Sem Value) (k : Value → Prop) : Prop := ∃ v, Rd P h s v ∧ k v
/-- In every heap that meets S the instruction reads one value. -/
def qs (P : Program) (S : Heap → Prop) (s : Sem Value) (k : Value → Prop) : Prop := ∃ v, (∀ h, S h → Rd P h s v) ∧ k v
theorem rd_of {P : Program} {s : Sem Value} {h : Heap} {k : Value → Prop} {v : Value} (hr : Rd P h s v) (hk : k v) : rd P h s k := ⟨v, hr, hk⟩
theorem Rd.uniq {P : Program} {α : Type} {s : Sem α} {h : Heap} {v u : α} (hv : Rd P h s v) (hu : Rd P h s u) : v = u := by
  have h1 := hv { (default : World) with heap := h } rfl
  have h2 := hu { (default : World) with heap := h } rfl
  rw [h1] at h2
  injection h2
theorem rd_eq {P : Program} {s : Sem Value} {h : Heap} {v : Value} (hr : Rd P h s v) (k : Value → Prop) : rd P h s k = k v := by
  apply propext
  exact ⟨fun ⟨u, hu, hk⟩ => hr.uniq hu ▸ hk, fun hk => ⟨v, hr, hk⟩⟩
theorem qs_of {P : Program} {s : Sem Value} {S : Heap → Prop} {k : Value → Prop} {v : Value} (hr : ∀ h, S h → Rd P h s v) (hk : k v) : qs P S s k := ⟨v, hr, hk⟩
theorem qs_rd {P : Program} {s : Sem Value} {h : Heap} {k : Value → Prop} (hr : rd P h s k) : qs P (fun h' => h' = h) s k := by
  obtain ⟨v, hv, hk⟩ := hr
  exact ⟨v, fun h' e => e ▸ hv, hk⟩

/-- What a call leaves. -/
def CR (w : World) (k : Value → Heap → Prop) : Ending → World → Prop
  | .returned v, w' => Sm w w' ∧ k v w'.heap
  | .panicked _, _ => False
  | .outgrown, _ => False
def nextK (P : Program) (s : Sem Next) (h : Heap) (k : Value → Heap → Prop) : Prop :=
  ∀ w : World, w.heap = h → ∃ n w', s.run P w = .ok n w' ∧ Sm w w' ∧
    (match n with
     | .value v => k v w'.heap
     | .skip => k undef w'.heap
     | .enter f args => Calls P f args w' (CR w' k)
     | _ => False)
def callF (P : Program) (f : FuncId) (args : List Value) (h : Heap) (k : Value → Heap → Prop) : Prop := nextK P (callFunc f ⟨args⟩) h k
def callV (P : Program) (fv : Value) (args : List Value) (h : Heap) (k : Value → Heap → Prop) : Prop :=
  nextK P (do let d ← Deferred.ofValue fv ⟨args⟩; invoke d.target d.args) h k
def callI (P : Program) (recv : Value) (name : String) (args : List Value) (h : Heap) (k : Value → Heap → Prop) : Prop :=
  nextK P (invoke (.fn (.method name) #[]) (⟨recv :: args⟩)) h k
theorem CR.mono {w : World} {k k' : Value → Heap → Prop} (h : ∀ v x, k v x → k' v x) : ∀ e w', CR w k e w' → CR w k' e w'
  | .returned _, _, hh => ⟨hh.1, h _ _ hh.2⟩
  | .panicked _, _, hh => hh
  | .outgrown, _, hh => hh
theorem nextK_mono {P : Program} {s : Sem Next} {h : Heap} {k k' : Value → Heap → Prop} (hk : ∀ v x, k v x → k' v x) (hh : nextK P s h k) : nextK P s h k' := by
  intro w hw
  obtain ⟨n, w', hr, hs, hn⟩ := hh w hw
  refine ⟨n, w', hr, hs, ?_⟩
  cases n <;> simp only at hn ⊢
  case value => exact hk _ _ hn
  case skip => exact hk _ _ hn
  case enter => exact Calls.mono hn (CR.mono hk)
theorem callF_mono {P : Program} {f : FuncId} {args : List Value} {h : Heap} {k k' : Value → Heap → Prop} (hh : callF P f args h k) (hk : ∀ v x, k v x → k' v x) : callF P f args h k' := nextK_mono hk hh
theorem callV_mono {P : Program} {f : Value} {args : List Value} {h : Heap} {k k' : Value → Heap → Prop} (hh : callV P f args h k) (hk : ∀ v x, k v x → k' v x) : callV P f args h k' := nextK_mono hk hh
theorem callI_mono {P : Program} {f : Value} {n : String} {args : List Value} {h : Heap} {k k' : Value → Heap → Prop} (hh : callI P f n args h k) (hk : ∀ v x, k v x → k' v x) : callI P f n args h k' := nextK_mono hk hh
/-- The function has a text of its own. -/
structure Ent (P : Program) (f : FuncId) : Prop where
  en : ∀ args w, (callFunc f args).run P w = .ok (.enter f args) w
  ini : P.inits.idxOf? f = none
theorem Ent.of {P : Program} {f : FuncId} {fn : Func} {c : Code} (hf : P.funcs[f]? = some fn) (hb : fn.body = some c) (hn : (fn.name == "runtime.NumGoroutine") = false) (hi : P.inits.idxOf? f = none) : Ent P f :=
  ⟨fun args w => by
    have hn' : ¬ fn.name = "runtime.NumGoroutine" := by simpa using hn
    simp [callFunc, hf, hn', hb], hi⟩
/-- Two sayings of one call speak of one end. -/
theorem Calls_agree {P : Program} {f : FuncId} {args : Array Value} {w : World} {k k' : Value → Heap → Prop} (h : Calls P f args w (CR w k)) (h' : Calls P f args w (CR w k')) (hi : P.inits.idxOf? f = none) :
    ∃ v x, k v x ∧ k' v x := by
  have g : Calls P f args w fun | .returned v, w' => k v w'.heap | _, _ => False := Calls.mono h fun e w' r => by cases e <;> first | exact r.2 | exact r
  have g' : Calls P f args w fun | .returned v, w' => k' v w'.heap | _, _ => False := Calls.mono h' fun e w' r => by cases e <;> first | exact r.2 | exact r
  obtain ⟨n, v, w1, e1, r1⟩ := Calls.done g hi
  obtain ⟨m, v', w2, e2, r2⟩ := Calls.done g' hi
  have a := runN_ended e1 m
  have b := runN_ended e2 n
  rw [Nat.add_comm, a] at b
  injection b with ho hw
  injection ho with hv
  subst hv hw
  exact ⟨_, _, r1, r2⟩
theorem callF_agree {P : Program} {f : FuncId} {args : List Value} {h : Heap} {k k' : Value → Heap → Prop} (he : Ent P f) (hh : callF P f args h k) (hh' : callF P f args h k') : ∃ v x, k v x ∧ k' v x := by
  have hr0 := he.en ⟨args⟩ { (default : World) with heap := h }
  obtain ⟨n, w', hr, hs, hn⟩ := hh { (default : World) with heap := h } rfl
  obtain ⟨n', w'', hr', hs', hn'⟩ := hh' { (default : World) with heap := h } rfl
  rw [hr0] at hr hr'
  injection hr with e1 e2
  injection hr' with e3 e4
  subst e1 e2 e3 e4
  exact Calls_agree hn hn' he.ini
theorem callF_eq {P : Program} {f : FuncId} {args : List Value} {h : Heap} {r : Value} (he : Ent P f) (hr : callF P f args h fun v h' => v = r ∧ h' = h) (Q : Value → Heap → Prop) : callF P f args h Q = Q r h := by
  apply propext
  constructor
  · intro hq
    obtain ⟨v, x, ⟨rfl, rfl⟩, b⟩ := callF_agree he hr hq
    exact b
  · intro hq
    exact nextK_mono (fun v x ⟨h1, h2⟩ => by rw [h1, h2]; exact hq) hr
theorem sem_mono {P : Program} {α : Type} {s : Sem α} {h : Heap} {k k' : α → Heap → Prop} (hh : sem P s h k) (hk : ∀ v x, k v x → k' v x) : sem P s h k' :=
  fun w hw => let ⟨v, w', a, b, c⟩ := hh w hw; ⟨v, w', a, b, hk _ _ c⟩

/-! ### Frames -/
def upd (f : Fr) (d : Nat) (v : Value) : Fr := fun t => cond (Nat.beq t d) v (f t)
def putF (f : Fr) : Option Tmp → Value → Fr
  | some d, v => upd f d v
  | none, _ => f
def evF (f : Fr) : Operand → Value
  | .tmp t => f t
  | .const v => v
  | .global g => .pointer (some ⟨g, 0, none⟩)
  | .func g => .func (.func g) #[] #[]
def lget : List Value → Nat → Value
  | [], _ => undef
  | v :: _, 0 => v
  | _ :: l, n + 1 => lget l n
def isB : Value → Bool → Bool
  | .bool x, b => x == b
  | _, _ => false
def okNil : Value → Bool
  | .pointer (some _) => true
  | .iface _ _ => true
  | .func (.func _) _ _ => true
  | _ => false
/-- An operation on two operands. -/
def binS (op : BinOp) (xType : TypeId) (x y : Operand) (a b : Value) : Sem Value := do eqGuard op xType x y a b; binOp op xType a b
/-- The value of an operation that reads. -/
def rdV (f : Fr) (ty : TypeId) : Op → Option (Sem Value)
  | .build t parts => some (Instr.build t ⟨parts.toList.map fun p => (p.1, evF f p.2)⟩)
  | .load t a => some (Instr.loadAt t (evF f a))
  | .binOp op xType x y _ => some (binS op xType x y (evF f x) (evF f y))
  | .unOp op _ x => some (Op.unary op (evF f x))
  | .convert src dst x => some (convert src dst (evF f x))
  | .makeInterface xType x => some (Instr.makeInterface xType (evF f x))
  | .makeFunc fn first captured => some (Instr.makeFunc fn ⟨first.toList.map (evF f)⟩ ⟨captured.toList.map (evF f)⟩)
  | .slice t x lo hi mx => some (Instr.sliceAt t (evF f x) (lo.map (evF f)) (hi.map (evF f)) (mx.map (evF f)))
  | .fieldAddr s x g => some (Instr.fieldAt s (evF f x) g)
  | .field xType x g => some (Instr.field xType (evF f x) g)
  | .indexAddr t x ix => some (Instr.indexAt t (evF f x) (evF f ix))
  | .index xType x ix => some (Instr.index xType (evF f x) (evF f ix))
  | .lookup xType x ix ok => some (Instr.lookup xType (evF f x) (evF f ix) ok)
  | .entry it => some (Instr.entry (evF f it))
  | .extract t ix => some (Instr.extract (evF f t) ix)
  | .call { callee := .builtin b, args, argTypes } =>
    match b with
    | .len => some (Builtin.len_ argTypes ty ⟨args.toList.map (evF f)⟩)
    | .max => some (Builtin.max_ argTypes ty ⟨args.toList.map (evF f)⟩)
    | .min => some (Builtin.min_ argTypes ty ⟨args.toList.map (evF f)⟩)
    | _ => none
  | _ => none
/-- The value of an operation that yields one and may turn memory. -/
def opV (f : Fr) (ty : TypeId) : Op → Option (Sem Value)
  | .alloc elem => some (Instr.alloc elem true (.tuple #[]))
  | .box elem x => some (Instr.box elem (evF f x))
  | .buildSlice t len parts => some (Instr.buildSlice t len ⟨parts.toList.map fun p => (p.1, evF f p.2)⟩)
  | .makeMap t r => some (Instr.makeMap t (r.map (evF f)))
  | .makeSlice t l c => some (Instr.makeSlice t (evF f l) (evF f c))
  | .range xType x => some (Instr.range xType (evF f x))
  | .next it isString => some (Instr.next (evF f it) isString ty)
  | .call { callee := .builtin b, args, argTypes } =>
    match b with
    | .append => some (Builtin.append_ argTypes ty ⟨args.toList.map (evF f)⟩)
    | .clear => some (Builtin.clear_ argTypes ty ⟨args.toList.map (evF f)⟩)
    | .delete => some (Builtin.delete_ argTypes ty ⟨args.toList.map (evF f)⟩)
    | _ => none
  | _ => none
/-- The effect of an operation that yields nothing. -/
def opU (f : Fr) : Op → Option (Sem Unit)
  | .store t a x => some (Instr.storeAt t (evF f a) (evF f x))
  | .mapUpdate t m k x => some (Instr.mapUpdate t (evF f m) (evF f k) (evF f x))
  | .insert t m k x => some (Instr.mapUpdate t (evF f m) (evF f k) (evF f x))
  | _ => none
/-- Does it read, and no more? -/
def isRd : Op → Bool
  | .move _ => true
  | .assign _ => true
  | .pick _ _ _ => true
  | .nilCheck _ => true
  | .build _ _ => true
  | .load _ _ => true
  | .binOp _ _ _ _ _ => true
  | .unOp _ _ _ => true
  | .convert _ _ _ => true
  | .makeInterface _ _ => true
  | .makeFunc _ _ _ => true
  | .slice _ _ _ _ _ => true
  | .fieldAddr _ _ _ => true
  | .field _ _ _ => true
  | .indexAddr _ _ _ => true
  | .index _ _ _ => true
  | .lookup _ _ _ _ => true
  | .entry _ => true
  | .extract _ _ => true
  | .call { callee := .builtin b, .. } => match b with | .len => true | .max => true | .min => true | _ => false
  | _ => false
/-- One operation that reads. -/
def qK (R : Sem Value → (Value → Prop) → Prop) (f : Fr) (o : Oper) (k : Value → Prop) : Prop :=
  match o.op with
  | .move x => k (evF f x)
  | .assign x => k (evF f x)
  | .pick c a b => ∃ x : Bool, evF f c = .bool x ∧ k (cond x (evF f a) (evF f b))
  | .nilCheck x => okNil (evF f x) = true ∧ k (evF f x)
  | op =>
    match rdV f o.type op with
    | some s => R s k
    | none => False
/-- One that does more. -/
def opK (P : Program) (f : Fr) (o : Oper) (h : Heap) (k : Value → Heap → Prop) : Prop :=
  match o.op with
  | .call { callee := .value (.func g), args, .. } => callF P g (args.toList.map (evF f)) h k
  | .call { callee := .value (.tmp t), args, .. } => callV P (f t) (args.toList.map (evF f)) h k
  | .call { callee := .invoke r n, args, .. } => callI P (evF f r) n (args.toList.map (evF f)) h k
  | op =>
    match opV f o.type op with
    | some s => sem P s h k
    | none =>
      match opU f op with
      | some s => sem P s h fun _ h' => k undef h'
      | none => False
noncomputable def gd (b : Bool) (m : Heap → (Value → Heap → Prop) → Prop) : Heap → (Value → Heap → Prop) → Prop :=
  Bool.rec (motive := fun _ => Heap → (Value → Heap → Prop) → Prop) (fun h k => k undef h) m b
noncomputable def gq (b : Bool) (m : (Value → Prop) → Prop) : (Value → Prop) → Prop := Bool.rec (motive := fun _ => (Value → Prop) → Prop) (fun k => k undef) m b
theorem gd_true (m : Heap → (Value → Heap → Prop) → Prop) (h : Heap) (k : Value → Heap → Prop) : gd true m h k = m h k := rfl
theorem gd_false (m : Heap → (Value → Heap → Prop) → Prop) (h : Heap) (k : Value → Heap → Prop) : gd false m h k = k undef h := rfl
theorem gq_true (m : (Value → Prop) → Prop) (k : Value → Prop) : gq true m k = m k := rfl
theorem gq_false (m : (Value → Prop) → Prop) (k : Value → Prop) : gq false m k = k undef := rfl
def dstAt : List Oper → Nat → Option Tmp
  | [], _ => none
  | o :: _, 0 => o.dst
  | _ :: l, n + 1 => dstAt l n
noncomputable def qG (R : Sem Value → (Value → Prop) → Prop) (ops : List Oper) (f : Fr) (o : Oper) (k : Value → Prop) : Prop :=
  match o.guard with
  | none => qK R f o k
  | some (j, want) =>
    match dstAt ops j with
    | some d => gq (isB (f d) want) (fun k => qK R f o k) k
    | none => False
noncomputable def opG (P : Program) (ops : List Oper) (f : Fr) (o : Oper) (h : Heap) (k : Value → Heap → Prop) : Prop :=
  Bool.rec (motive := fun _ => Prop)
    (match o.guard with
    | none => opK P f o h k
    | some (j, want) =>
      match dstAt ops j with
      | some d => gd (isB (f d) want) (fun h k => opK P f o h k) h k
      | none => False)
    (qG (rd P h) ops f o fun v => k v h) (isRd o.op)
noncomputable def seqW (P : Program) (ops : List Oper) (Q : Fr → Heap → Prop) (l : List Oper) : Fr → Heap → Prop :=
  List.rec (motive := fun _ => Fr → Heap → Prop) (fun f h => Q f h) (fun o _ ih f h => opG P ops f o h fun v h' => ih (putF f o.dst v) h') l
/-- A call that turns nothing, here. -/
def rc (P : Program) (h : Heap) (g : FuncId) (args : List Value) (k : Value → Prop) : Prop := ∃ v, callF P g args h (fun v' h' => v' = v ∧ h' = h) ∧ k v
/-- .. in every heap that meets S. -/
def qc (P : Program) (S : Heap → Prop) (g : FuncId) (args : List Value) (k : Value → Prop) : Prop := ∃ v, (∀ h, S h → callF P g args h fun v' h' => v' = v ∧ h' = h) ∧ k v
theorem rc_qc {P : Program} {h : Heap} {g : FuncId} {args : List Value} {k : Value → Prop} (hr : rc P h g args k) : qc P (fun h' => h' = h) g args k := by
  obtain ⟨v, hv, hk⟩ := hr
  exact ⟨v, fun h' e => e ▸ hv, hk⟩
/-- One operation that reads, or calls what turns nothing. -/
def qK2 (C : FuncId → List Value → (Value → Prop) → Prop) (R : Sem Value → (Value → Prop) → Prop) (f : Fr) (o : Oper) (k : Value → Prop) : Prop :=
  match o.op with
  | .call { callee := .value (.func g), args, .. } => C g (args.toList.map (evF f)) k
  | _ => qK R f o k
noncomputable def qG2 (C : FuncId → List Value → (Value → Prop) → Prop) (R : Sem Value → (Value → Prop) → Prop) (ops : List Oper) (f : Fr) (o : Oper) (k : Value → Prop) : Prop :=
  match o.guard with
  | none => qK2 C R f o k
  | some (j, want) =>
    match dstAt ops j with
    | some d => gq (isB (f d) want) (fun k => qK2 C R f o k) k
    | none => False
/-- How a region that draws its order is gone through: one operation that turns nothing and looks at no memory is taken first; or one that reads memory, under a condition of its own (or of this very memory: true); or one is carried out (the only one that may come up, or one of several; and whose conditions hold behind it). -/
inductive Scr where
  | done
  | take (i : Nat) (s : Scr)
  | hold (i : Nat) (q : Bool) (s : Scr)
  | act (i : Nat) (l : List Nat) (s : Scr)
  | br (i : Nat) (l : List Nat) (s more : Scr)
abbrev SEnv := List (Nat × (Heap → Prop))
/-- In every memory one value. -/
def qa (P : Program) (s : Sem Value) (k : Value → Prop) : Prop := qs P (fun _ => True) s k
def ca (P : Program) (g : FuncId) (args : List Value) (k : Value → Prop) : Prop := qc P (fun _ => True) g args k
theorem qa_eq {P : Program} {s : Sem Value} {v : Value} (H : ∀ h k, rd P h s k = k v) (k : Value → Prop) : qa P s k = k v := by
  have R : ∀ h, Rd P h s v := fun h => by
    have : rd P h s (fun u => u = v) := by rw [H]
    obtain ⟨u, hu, rfl⟩ := this
    exact hu
  apply propext
  exact ⟨fun ⟨u, hu, hk⟩ => (hu #[] trivial).uniq (R #[]) ▸ hk, fun hk => ⟨v, fun h _ => R h, hk⟩⟩
theorem ca_eq {P : Program} {g : FuncId} {args : List Value} {v : Value} (he : Ent P g) (H : ∀ h, callF P g args h fun v' h' => v' = v ∧ h' = h) (k : Value → Prop) : ca P g args k = k v := by
  apply propext
  constructor
  · rintro ⟨u, hu, hk⟩
    obtain ⟨_, _, ⟨h1, _⟩, ⟨h2, _⟩⟩ := callF_agree he (hu #[] trivial) (H #[])
    exact h2 ▸ h1 ▸ hk
  · exact fun hk => ⟨v, fun h _ => H h, hk⟩
def keep : SEnv → List Nat → SEnv
  | [], _ => []
  | (i, S) :: E, l => bif l.any (Nat.beq i) then (i, S) :: keep E l else keep E l
def allS : SEnv → Heap → Prop → Prop
  | [], _, X => X
  | (_, S) :: E, h, X => S h ∧ allS E h X
noncomputable def dopG (P : Program) (ops : List Oper) (f : Fr) (i : Nat) (h : Heap) (k : Fr → Heap → Prop) : Prop :=
  match ops[i]? with
  | some o => opG P ops f o h fun v h' => k (putF f o.dst v) h'
  | none => False
noncomputable def dqG (C : FuncId → List Value → (Value → Prop) → Prop) (R : Sem Value → (Value → Prop) → Prop) (ops : List Oper) (f : Fr) (i : Nat) (k : Fr → Prop) : Prop :=
  match ops[i]? with
  | some o => qG2 C R ops f o fun v => k (putF f o.dst v)
  | none => False
noncomputable def holdG (P : Program) (ops : List Oper) (f : Fr) (i : Nat) (q : Bool) (h : Heap) (k : Fr → (Heap → Prop) → Prop) : Prop :=
  Bool.rec (motive := fun _ => Prop) (∃ S : Heap → Prop, S h ∧ dqG (qc P S) (qs P S) ops f i fun f' => k f' S) (dqG (rc P h) (rd P h) ops f i fun f' => k f' fun h' => h' = h) q
noncomputable def dwp (P : Program) (ops : List Oper) (Q : Fr → Heap → Prop) (s : Scr) : Fr → Heap → SEnv → Prop :=
  Scr.rec (motive := fun _ => Fr → Heap → SEnv → Prop) (fun f h _ => Q f h)
    (fun i _ ih f h E => dqG (ca P) (qa P) ops f i fun f' => ih f' h E)
    (fun i q _ ih f h E => holdG P ops f i q h fun f' S => ih f' h ((i, S) :: E))
    (fun i l _ ih f h E => dopG P ops f i h fun f' h' => allS (keep E l) h' (ih f' h' (keep E l)))
    (fun i l _ _ ih ihm f h E => (dopG P ops f i h fun f' h' => allS (keep E l) h' (ih f' h' (keep E l))) ∧ ihm f h E) s
structure Ann where
  loops : List (Nat × List Nat × List Nat)
  draws : List (Nat × Scr)
def lookL : List (Nat × List Nat × List Nat) → Nat → List Nat × List Nat
  | [], _ => ([], [])
  | (i, x) :: l, n => cond (Nat.beq i n) x (lookL l n)
def lookD : List (Nat × Scr) → Nat → Option Scr
  | [], _ => none
  | (i, x) :: l, n => cond (Nat.beq i n) (some x) (lookD l n)
/-- The first region's number. -/
def firstId : Code → Nat
  | .region id _ _ => id
  | .seq a _ => firstId a
  | .block _ c => firstId c
  | .loop c => firstId c
  | _ => 0
abbrev CQ := Exit → Fr → Heap → Prop
def thenQ (next : Fr → Heap → Prop) (Q : CQ) : CQ
  | .normal, f, h => next f h
  | .exit i, f, h => Q (.exit i) f h
  | .goto l, f, h => Q (.goto l) f h
  | .ret, f, h => Q .ret f h
  | .panic c, f, h => Q (.panic c) f h
  | .outgrown, f, h => Q .outgrown f h
def blockQ (id : Nat) (Q : CQ) : CQ
  | .exit i, f, h => cond (Nat.beq i id) (Q .normal f h) (Q (.exit i) f h)
  | .normal, f, h => Q .normal f h
  | .goto l, f, h => Q (.goto l) f h
  | .ret, f, h => Q .ret f h
  | .panic c, f, h => Q (.panic c) f h
  | .outgrown, f, h => Q .outgrown f h
def All : Nat → (List Value → Prop) → Prop
  | 0, p => p []
  | n + 1, p => ∀ v, All n fun l => p (v :: l)
def mixL (f : Fr) : List Nat → List Value → Fr
  | t :: ts, v :: vs => upd (mixL f ts vs) t v
  | _, _ => f
def mixD (f : Fr) (g : Nat → Value) : List Nat → Fr
  | t :: ts => upd (mixD f g ts) t (g t)
  | [] => f
def selF (f : Fr) : List Nat → List Value
  | [] => []
  | t :: ts => f t :: selF f ts
/-- A branch. -/
def br (c : Value) (A B : Prop) : Prop := ∃ x : Bool, c = .bool x ∧ (x = true → A) ∧ (x = false → B)
/-- A loop: of what its slots hold at each head a relation holds, and a measure falls. -/
def lp (n : Nat) (xs0 : List Value) (h0 : Heap) (body : (List Value → Heap → Prop) → List Value → (Nat → Value) → Heap → Prop) : Prop :=
  ∃ (I : List Value → Heap → Prop) (μ : List Value → Heap → Nat), I xs0 h0 ∧
    All n fun xs => ∀ (g : Nat → Value) (h : Heap), I xs h → body (fun ys h' => I ys h' ∧ μ ys h' < μ xs h) xs g h
noncomputable def cwp (P : Program) (A : Ann) (c : Code) : CQ → Fr → Heap → Prop :=
  Code.rec (motive := fun _ => CQ → Fr → Heap → Prop)
    (fun Q f h => Q .normal f h)
    (fun id ops draw Q f h => match draw with
      | false => seqW P ops.toList (Q .normal) ops.toList f h
      | true =>
        match lookD A.draws id with
        | none => False
        | some s => dwp P ops.toList (Q .normal) s f h [])
    (fun _ _ iha ihb Q f h => iha (thenQ (fun f h => ihb Q f h) Q) f h)
    (fun c _ _ iha ihb Q f h => br (evF f c) (iha Q f h) (ihb Q f h))
    (fun id _ ih Q f h => ih (blockQ id Q) f h)
    (fun c ih Q f h =>
      match lookL A.loops (firstId c) with
      | (live, dead) => lp live.length (selF f live) h fun k xs g h => ih (thenQ (fun f' h' => k (selF f' live) h') Q) (mixL (mixD f g dead) live xs) h)
    (fun _ _ _ _ _ _ _ _ _ => False)
    (fun id Q f h => Q (.exit id) f h)
    (fun _ _ _ _ _ => False)
    (fun _ _ _ _ => False)
    (fun _ _ _ _ => False)
    (fun Q f h => Q .ret f h)
    (fun _ _ _ _ => False) c
theorem cwp_draw {P : Program} {A : Ann} {id : Nat} {ops : Array Oper} {Q : CQ} {f : Fr} {h : Heap} : cwp P A (.region id ops true) Q f h = (match lookD A.draws id with
    | none => False
    | some s => dwp P ops.toList (Q .normal) s f h []) := rfl
theorem cwp_loop {P : Program} {A : Ann} {c : Code} {Q : CQ} {f : Fr} {h : Heap} : cwp P A (.loop c) Q f h = (match lookL A.loops (firstId c) with
    | (live, dead) => lp live.length (selF f live) h fun k xs g h => cwp P A c (thenQ (fun f' h' => k (selF f' live) h') Q) (mixL (mixD f g dead) live xs) h) := rfl
/-- A function's results, where its body has come to its end. -/
noncomputable def resQ (P : Program) (f : Fr) (h : Heap) (rs : List ResultVar) : (List Value → Prop) → Prop :=
  List.rec (motive := fun _ => (List Value → Prop) → Prop) (fun k => k [])
    (fun r _ ih k => match r with
      | .tmp t => ih fun vs => k (f t :: vs)
      | .cell x t => rd P h (Instr.loadAt t (f x)) fun v => ih fun vs => k (v :: vs)) rs
def resV : List Value → Value
  | [v] => v
  | vs => .tuple ⟨vs⟩
/-- The answer of a function whose body has come to its end. -/
noncomputable def endQ (P : Program) (rs : List ResultVar) (Q : Value → Heap → Prop) : CQ
  | .normal, f, h => resQ P f h rs fun vs => Q (resV vs) h
  | .ret, f, h => resQ P f h rs fun vs => Q (resV vs) h
  | _, _, _ => False
noncomputable def fnwp (P : Program) (A : Ann) (c : Code) (rs : List ResultVar) (args : List Value) (h : Heap) (Q : Value → Heap → Prop) : Prop :=
  cwp P A c (endQ P rs Q) (lget args) h

/-! ### Soundness -/
def FrameOk (n : Nat) (a : Act) (f : Fr) : Prop := a.tmps.size = n ∧ (∀ t, a.tmps.getD t undef = f t) ∧ a.defers = []
theorem upd_same (f : Fr) (d : Nat) (v : Value) : upd f d v d = v := by simp [upd]
theorem upd_other (f : Fr) {d t : Nat} (v : Value) (h : t ≠ d) : upd f d v t = f t := by
  have : Nat.beq t d = false := by
    cases hb : Nat.beq t d with
    | false => rfl
    | true => exact absurd (Nat.eq_of_beq_eq_true hb) h
  simp [upd, this]
theorem FrameOk.eval {n : Nat} {a : Act} {f : Fr} (h : FrameOk n a f) : a.eval = evF f := by
  funext x
  cases x with
  | tmp t => exact h.2.1 t
  | const v => rfl
  | global g => rfl
  | func g => rfl
theorem FrameOk.put {n : Nat} {a : Act} {f : Fr} (h : FrameOk n a f) {dst : Option Tmp} (hd : ∀ d, dst = some d → d < n) (v : Value) : FrameOk n (a.put dst v) (putF f dst v) := by
  cases dst with
  | none => exact h
  | some d =>
    have hdn := hd d rfl
    refine ⟨by simp [Act.put, h.1], fun t => ?_, h.2.2⟩
    simp only [Act.put, putF]
    by_cases e : t = d
    · subst e
      rw [upd_same]
      simp [Array.getD_eq_getD_getElem?, h.1, hdn]
    · rw [upd_other _ _ e, ← h.2.1 t]
      simp [Array.getD_eq_getD_getElem?, Array.getElem?_setIfInBounds_ne (Ne.symm e)]

theorem run_bind_eq {α β : Type} (P : Program) (s : Sem α) (g : α → Sem β) (w : World) : (s.bind g).run P w = match s.run P w with | .ok v w' => (g v).run P w' | .halt x w' => .halt x w' := by
  rw [Sem.run_bind']; cases s.run P w <;> rfl
theorem arr_map {α β : Type} (g : α → β) (l : Array α) : (⟨l.toList.map g⟩ : Array β) = l.map g := by
  apply Array.ext'; simp

theorem exec_opV {f : Fr} {o : Oper} {s : Sem Value} (hv : opV f o.type o.op = some s) : execOp (evF f) o = s.bind fun v => Sem.pure (Next.value v) := by
  obtain ⟨dst, op, ty, pos, after, guard⟩ := o
  cases op with
  | call c =>
    obtain ⟨callee, args, argTypes⟩ := c
    cases callee with
    | builtin b =>
      cases b <;> simp only [opV] at hv <;> first | (cases hv; done) | (injection hv with hv; subst hv; simp only [execOp, resolve, arr_map]; rfl)
    | value x => simp [opV] at hv
    | invoke r m => simp [opV] at hv
  | _ => simp only [opV] at hv <;> first | (cases hv; done) | (injection hv with hv; subst hv; simp only [execOp, arr_map]; rfl)
theorem exec_rdV {f : Fr} {o : Oper} {s : Sem Value} (hv : rdV f o.type o.op = some s) : execOp (evF f) o = s.bind fun v => Sem.pure (Next.value v) := by
  obtain ⟨dst, op, ty, pos, after, guard⟩ := o
  cases op with
  | call c =>
    obtain ⟨callee, args, argTypes⟩ := c
    cases callee with
    | builtin b =>
      cases b <;> simp only [rdV] at hv <;> first | (cases hv; done) | (injection hv with hv; subst hv; simp only [execOp, resolve, arr_map]; rfl)
    | value x => simp [rdV] at hv
    | invoke r m => simp [rdV] at hv
  | _ => simp only [rdV] at hv <;> first | (cases hv; done) | (injection hv with hv; subst hv; simp only [execOp, arr_map, binS]; rfl)
theorem exec_opU {f : Fr} {o : Oper} {s : Sem Unit} (hv : opU f o.op = some s) : execOp (evF f) o = s.bind fun _ => Sem.pure Next.skip := by
  obtain ⟨dst, op, ty, pos, after, guard⟩ := o
  cases op <;> simp only [opU] at hv <;> first | (cases hv; done) | (injection hv with hv; subst hv; simp only [execOp]; rfl)

theorem okNil_run {P : Program} {f : Fr} {o : Oper} {x : Operand} (ho : o.op = .nilCheck x) (h : okNil (evF f x) = true) (w : World) : (execOp (evF f) o).run P w = .ok (.value (evF f x)) w := by
  obtain ⟨dst, op, ty, pos, after, guard⟩ := o
  simp only at ho
  subst ho
  simp only [execOp]
  generalize evF f x = v at h
  unfold okNil at h
  split at h <;> first | rfl | cases h
section
variable {P : Program} {n : Nat}
/-- An operation's continuation, from the frame to the machine's own. -/
def Kont (a : Act) (o : Oper) (w : World) (k : Value → Heap → Prop) (K : Act → World → Prop) : Prop :=
  ∀ v w', Sm w w' → k v w'.heap → K (a.put o.dst v) w'
theorem exec_qK {S : Heap → Prop} {R : Sem Value → (Value → Prop) → Prop} (hR : ∀ s k, R s k → qs P S s k) {f : Fr} {o : Oper} {k : Value → Prop} (hk : qK R f o k) : ∃ v, (∀ w : World, S w.heap → (execOp (evF f) o).run P w = .ok (.value v) w) ∧ k v := by
  have value : ∀ s : Sem Value, rdV f o.type o.op = some s → R s k → ∃ v, (∀ w : World, S w.heap → (execOp (evF f) o).run P w = .ok (.value v) w) ∧ k v := by
    intro s hs hk
    obtain ⟨v, hr, hkv⟩ := hR _ _ hk
    refine ⟨v, fun w hS => ?_, hkv⟩
    rw [exec_rdV hs, run_bind_eq, hr _ hS w rfl]
    rfl
  obtain ⟨dst, op, ty, pos, after, guard⟩ := o
  cases op with
  | move x => exact ⟨evF f x, fun _ _ => rfl, hk⟩
  | assign x => exact ⟨evF f x, fun _ _ => rfl, hk⟩
  | pick c x y =>
    obtain ⟨b, hc, hk⟩ := hk
    refine ⟨cond b (evF f x) (evF f y), fun _ _ => ?_, hk⟩
    simp only [execOp, hc, asBool]
    cases b <;> rfl
  | nilCheck x => exact ⟨evF f x, fun w _ => okNil_run rfl hk.1 w, hk.2⟩
  | call c =>
    obtain ⟨callee, args, argTypes⟩ := c
    cases callee with
    | builtin b => cases b <;> first | exact value _ rfl hk | exact False.elim hk
    | value x => exact False.elim hk
    | invoke r m => exact False.elim hk
  | _ => first | exact value _ rfl hk | exact False.elim hk
theorem opK_sound {a : Act} {f : Fr} {o : Oper} {h : Heap} {w : World} {k : Value → Heap → Prop} {K : Act → World → Prop} {Q : Exit → Act → World → Prop}
    (hk : opK P f o h k) (hf : FrameOk n a f) (hw : w.heap = h) (hK : Kont a o w k K) : o.wp P a w K Q := by
  have hev := hf.eval
  suffices H : o.upon P a K Q ((execOp (evF f) o).run P w) by
    unfold Oper.wp; rw [hev]; exact H
  have value : ∀ s : Sem Value, opV f o.type o.op = some s → sem P s h k → o.upon P a K Q ((execOp (evF f) o).run P w) := by
    intro s hs hk
    rw [exec_opV hs]
    obtain ⟨v, w', hr, hsm, hkv⟩ := hk w hw
    rw [run_bind_eq, hr]
    exact hK v w' hsm hkv
  have unit : ∀ s : Sem Unit, opU f o.op = some s → sem P s h (fun _ h' => k undef h') → o.upon P a K Q ((execOp (evF f) o).run P w) := by
    intro s hs hk
    rw [exec_opU hs]
    obtain ⟨v, w', hr, hsm, hkv⟩ := hk w hw
    rw [run_bind_eq, hr]
    exact hK undef w' hsm hkv
  have next : ∀ s : Sem Next, execOp (evF f) o = s → nextK P s h k → o.upon P a K Q ((execOp (evF f) o).run P w) := by
    intro s hs hk
    rw [hs]
    obtain ⟨nx, w', hr, hsm, hkv⟩ := hk w hw
    rw [hr]
    cases nx <;> simp only at hkv <;> simp only [Oper.upon]
    case value v => exact hK v w' hsm hkv
    case skip => exact hK undef w' hsm hkv
    case enter g args =>
      refine Calls.mono hkv fun e w'' he => ?_
      cases e with
      | returned v => exact hK v w'' (hsm.trans he.1) he.2
      | panicked c => exact he.elim
      | outgrown => exact he.elim
  obtain ⟨dst, op, ty, pos, after, guard⟩ := o
  cases op with
  | call c =>
    obtain ⟨callee, args, argTypes⟩ := c
    cases callee with
    | value x =>
      cases x with
      | func g =>
        refine next (callFunc g ⟨args.toList.map (evF f)⟩) ?_ hk
        rw [arr_map]
        simp [execOp, resolve, Deferred.ofValue, invoke, evF]
      | tmp t =>
        refine next (do let d ← Deferred.ofValue (f t) ⟨args.toList.map (evF f)⟩; invoke d.target d.args) ?_ hk
        rw [arr_map]
        simp [execOp, resolve, evF]
      | const v => exact False.elim hk
      | global g => exact False.elim hk
    | invoke r m =>
      refine next (invoke (.fn (.method m) #[]) ⟨evF f r :: args.toList.map (evF f)⟩) ?_ hk
      have : (⟨evF f r :: args.toList.map (evF f)⟩ : Array Value) = #[evF f r] ++ args.map (evF f) := by
        apply Array.ext'; simp
      rw [this]
      simp [execOp, resolve]
    | builtin b => cases b <;> first | exact value _ rfl hk | exact False.elim hk
  | _ =>
    first
      | exact value _ rfl hk
      | exact unit _ rfl hk
      | exact False.elim hk

theorem dstAt_eq (ops : Array Oper) (j : Nat) : dstAt ops.toList j = (ops[j]?).bind (·.dst) := by
  have : ∀ (l : List Oper) j, dstAt l j = (l[j]?).bind (·.dst) := by
    intro l
    induction l with
    | nil => intro j; simp [dstAt]
    | cons o l ih => intro j; cases j <;> simp [dstAt, ih]
  rw [this]; simp
def dstsOk (n : Nat) (ops : List Oper) : Bool := ops.all fun o => match o.dst with | some d => Nat.blt d n | none => true
theorem dstsOk_mem {ops : List Oper} (h : dstsOk n ops = true) {o : Oper} (ho : o ∈ ops) : ∀ d, o.dst = some d → d < n := by
  intro d hd
  have := List.all_eq_true.1 h o ho
  simp only [hd] at this
  simpa [Nat.blt_eq] using this
theorem wanted_eq {ops : Array Oper} {a : Act} {f : Fr} {o : Oper} {j : Nat} {want : Bool} {d : Nat} (hf : FrameOk n a f) (hg : o.guard = some (j, want)) (hd : dstAt ops.toList j = some d) (hn : d < n) :
    Region.wanted o (yielded ops a.tmps) = isB (f d) want := by
  rw [dstAt_eq] at hd
  have ht : a.tmps[d]? = some (f d) := by
    rw [← hf.2.1 d, Array.getD_eq_getD_getElem?]
    have : d < a.tmps.size := by rw [hf.1]; exact hn
    simp [this]
  simp only [Region.wanted, hg, yielded, hd, Option.bind_some, ht]
  cases f d <;> simp [isB]
theorem dstAt_mem {ops : List Oper} {j d : Nat} (h : dstAt ops j = some d) : ∃ o ∈ ops, o.dst = some d := by
  induction ops generalizing j with
  | nil => simp [dstAt] at h
  | cons o l ih =>
    cases j with
    | zero => exact ⟨o, by simp, h⟩
    | succ j => obtain ⟨o', h1, h2⟩ := ih h; exact ⟨o', by simp [h1], h2⟩
theorem yields_of_qG {S : Heap → Prop} {R : Sem Value → (Value → Prop) → Prop} (hR : ∀ s k, R s k → qs P S s k) {ops : Array Oper} {a : Act} {f : Fr} {o : Oper} {k : Value → Prop} (hk : qG R ops.toList f o k) (hok : dstsOk n ops.toList = true) (hf : FrameOk n a f) :
    ∃ v, YieldsIf P ops (fun w => S w.heap) o v a ∧ k v := by
  unfold qG at hk
  split at hk
  · rename_i hg
    obtain ⟨v, hv, hkv⟩ := exec_qK hR hk
    exact ⟨v, .inl ⟨by simp [Region.wanted, hg], fun w hS => by rw [hf.eval]; exact hv w hS⟩, hkv⟩
  · rename_i j want hg
    split at hk
    · rename_i d hd
      obtain ⟨o', ho', hd'⟩ := dstAt_mem hd
      have hwa := wanted_eq hf hg hd (dstsOk_mem hok ho' d hd')
      cases hb : isB (f d) want with
      | true =>
        rw [hb] at hk
        obtain ⟨v, hv, hkv⟩ := exec_qK hR hk
        exact ⟨v, .inl ⟨by rw [hwa, hb], fun w hS => by rw [hf.eval]; exact hv w hS⟩, hkv⟩
      | false => rw [hb] at hk; exact ⟨undef, .inr ⟨by rw [hwa, hb], rfl⟩, hk⟩
    · exact hk.elim
theorem opG_sound {ops : Array Oper} {a : Act} {f : Fr} {o : Oper} {h : Heap} {w : World} {k : Value → Heap → Prop} {K : Act → World → Prop} {Q : Exit → Act → World → Prop}
    (hk : opG P ops.toList f o h k) (hok : dstsOk n ops.toList = true) (hf : FrameOk n a f) (hw : w.heap = h) (hK : Kont a o w k K) :
    if Region.wanted o (yielded ops a.tmps) then o.wp P a w K Q ∨ (o.asks P a w ∧ LetsOut Q) else K (a.put o.dst undef) w := by
  unfold opG at hk
  cases hr : isRd o.op with
  | true =>
    rw [hr] at hk
    obtain ⟨v, hy, hkv⟩ := yields_of_qG (S := fun h' => h' = h) (fun _ _ => qs_rd) hk hok hf
    rcases hy with ⟨hwa, hv⟩ | ⟨hwa, rfl⟩
    · rw [if_pos hwa]
      refine .inl ?_
      unfold Oper.wp
      rw [hv w hw]
      exact hK v w (Sm.refl w) (hw ▸ hkv)
    · rw [if_neg (by rw [hwa]; simp)]
      exact hK undef w (Sm.refl w) (hw ▸ hkv)
  | false =>
    rw [hr] at hk
    dsimp only at hk
    split at hk
    · rename_i hg
      rw [if_pos (by simp [Region.wanted, hg])]
      exact .inl (opK_sound hk hf hw hK)
    · rename_i j want hg
      split at hk
      · rename_i d hd
        obtain ⟨o', ho', hd'⟩ := dstAt_mem hd
        rw [wanted_eq hf hg hd (dstsOk_mem hok ho' d hd')]
        split
        · rename_i hb; rw [hb] at hk; exact .inl (opK_sound hk hf hw hK)
        · rename_i hb; rw [Bool.eq_false_iff.2 hb] at hk; exact hK undef w (Sm.refl w) (hw ▸ hk)
      · exact hk.elim

/-- What a piece of code leaves, in the machine's own words: a frame that differs where the code writes alone. -/
def lift (n : Nat) (f0 : Fr) (W : List Nat) (Q : CQ) (w0 : World) : Exit → Act → World → Prop
  | .outgrown, _, _ => False
  | .panic _, _, _ => False
  | e, a, w => ∃ f, FrameOk n a f ∧ (∀ t, t ∉ W → f t = f0 t) ∧ Sm w0 w ∧ Q e f w.heap
theorem lift_mono {f0 : Fr} {W W' : List Nat} {Q : CQ} {w0 : World} (hW : ∀ t, t ∈ W → t ∈ W') : ∀ e a w, lift n f0 W Q w0 e a w → lift n f0 W' Q w0 e a w := by
  intro e a w h
  cases e with
  | outgrown => exact h.elim
  | panic c => exact h.elim
  | _ => obtain ⟨f, h1, h2, h3⟩ := h; exact ⟨f, h1, fun t ht => h2 t fun hm => ht (hW t hm), h3⟩
theorem lift_then {f0 f1 : Fr} {W W' : List Nat} {Q : CQ} {w0 w1 : World} (hf : ∀ t, t ∉ W → f1 t = f0 t) (hw : Sm w0 w1) : ∀ e a w, lift n f1 W' Q w1 e a w → lift n f0 (W ++ W') Q w0 e a w := by
  intro e a w h
  cases e with
  | outgrown => exact h.elim
  | panic c => exact h.elim
  | _ =>
    obtain ⟨f, h1, h2, h3, h4⟩ := h
    exact ⟨f, h1, fun t ht => by rw [h2 t fun hm => ht (List.mem_append_right _ hm), hf t fun hm => ht (List.mem_append_left _ hm)], hw.trans h3, h4⟩

def dsts (ops : List Oper) : List Nat := ops.filterMap (·.dst)
theorem seqW_sound {ops : Array Oper} (hok : dstsOk n ops.toList = true) {Q : CQ} {f0 : Fr} {w0 : World} : ∀ (l : List Oper), (∀ o ∈ l, o ∈ ops.toList) → ∀ (f : Fr) (h : Heap) (a : Act) (w : World),
    seqW P ops.toList (Q .normal) l f h → FrameOk n a f → w.heap = h → (∀ t, t ∉ dsts ops.toList → f t = f0 t) → Sm w0 w → wpList P ops (lift n f0 (dsts ops.toList) Q w0) l a w
  | [], _, f, h, a, w, hs, hf, hw, hag, hsm => ⟨f, hf, hag, hsm, hw ▸ hs⟩
  | o :: rest, hl, f, h, a, w, hs, hf, hw, hag, hsm => by
    have ho : o ∈ ops.toList := hl o (by simp)
    refine opG_sound (n := n) hs hok hf hw ?_
    intro v w' hsm' hk
    refine seqW_sound hok rest (fun o' h' => hl o' (by simp [h'])) _ _ _ _ hk (hf.put (dstsOk_mem hok ho) v) rfl ?_ (hsm.trans hsm')
    intro t ht
    rw [← hag t ht]
    cases hd : o.dst with
    | none => rfl
    | some d =>
      refine upd_other _ _ fun e => ht ?_
      subst e
      exact List.mem_filterMap.2 ⟨o, ho, hd⟩
end

/-! ### Any order, with calls that turn nothing taken first -/
def Eqv (w w' : World) : Prop := Sm w w' ∧ w'.heap = w.heap
theorem Eqv.refl (w : World) : Eqv w w := ⟨Sm.refl w, rfl⟩
theorem Eqv.trans {a b c : World} (h : Eqv a b) (k : Eqv b c) : Eqv a c := ⟨h.1.trans k.1, k.2.trans h.2⟩
def deps (ops : Array Oper) (i j : Nat) : Bool := ((ops[j]?).map fun o => o.after.any fun e => Region.binds .any e && e.on == i).getD false
section
variable {P : Program} {ops : Array Oper} {Q : Exit → Act → World → Prop} {S : Heap → Prop}
def Yl (P : Program) (ops : Array Oper) (S : Heap → Prop) (o : Oper) (v : Value) (a : Act) : Prop :=
  (Region.wanted o (yielded ops a.tmps) = true ∧ ∀ w : World, S w.heap → ∃ nx w1, (execOp a.eval o).run P w = .ok nx w1 ∧
    (match nx with
     | .value u => u = v ∧ Eqv w w1
     | .skip => v = undef ∧ Eqv w w1
     | .enter g args => Calls P g args w1 fun e w' => e = .returned v ∧ Eqv w w'
     | _ => False)) ∨
  (Region.wanted o (yielded ops a.tmps) = false ∧ v = undef)
theorem Yl.wpOp {i : Nat} {o : Oper} {v : Value} {a : Act} (hi : ops[i]? = some o) (hy : Yl P ops S o v a)
    {K : Act → World → Prop} {w : World} (hS : S w.heap) (h : ∀ w', Eqv w w' → K (a.put o.dst v) w') : wpOp P ops Q i K a w := by
  unfold Go.wpOp
  simp only [hi]
  rcases hy with ⟨hw, hv⟩ | ⟨hw, rfl⟩
  · obtain ⟨nx, w1, hr, hn⟩ := hv w hS
    simp only [hw, if_true, Oper.wp, hr]
    refine .inl ?_
    cases nx <;> simp only at hn <;> simp only [Oper.upon]
    case value u => obtain ⟨hn, he⟩ := hn; subst hn; exact h w1 he
    case skip => obtain ⟨hn, he⟩ := hn; subst hn; exact h w1 he
    case enter g args =>
      refine Calls.mono hn fun e w' he' => ?_
      obtain ⟨rfl, he'⟩ := he'
      exact h w' he'
  · simp only [hw, Bool.false_eq_true, if_false]; exact h w (Eqv.refl w)
theorem Yl.of_same {o : Oper} {v : Value} {a a' : Act} (hy : Yl P ops S o v a) (he : execOp a'.eval o = execOp a.eval o)
    (hw : Region.wanted o (yielded ops a'.tmps) = Region.wanted o (yielded ops a.tmps)) : Yl P ops S o v a' := by
  unfold Yl at *
  rw [he, hw]
  exact hy
theorem wpOp_putYl {j : Nat} {oi oj : Oper} {v : Value} (hj : ops[j]? = some oj) (hap : oi.apart ops oj = true)
    (hsi : ∀ cs b, oi.op ≠ .select cs b) (hsj : ∀ cs b, oj.op ≠ .select cs b)
    (hQ : ∀ c a w, Q (.panic c) (a.put oi.dst v) w → Q (.panic c) a w) {K : Act → World → Prop} {a : Act} {w : World}
    (hy : Yl P ops S oi v a) (h : wpOp P ops Q j K (a.put oi.dst v) w) :
    wpOp P ops Q j (fun a' w' => Yl P ops S oi v a' ∧ K (a'.put oi.dst v) w') a w := by
  obtain ⟨h1, h2, h3⟩ := Oper.apart_spec hap
  have keep : ∀ (a : Act), Yl P ops S oi v a → ∀ u, Yl P ops S oi v (a.put oj.dst u) := fun a hy u =>
    hy.of_same (execOp_put oi hsi a oj.dst u h3) (wanted_put oi a oj.dst u h3)
  have keepD : ∀ d, Yl P ops S oi v { a with defers := d :: a.defers } := fun d => hy.of_same rfl rfl
  unfold Go.wpOp at *
  simp only [hj] at *
  rw [wanted_put oj a oi.dst v h1] at h
  split
  · rename_i hw
    simp only [hw, if_true] at h
    rcases h with h | ⟨hasks, hlets⟩
    case inr => exact .inr ⟨by unfold Oper.asks at *; rw [execOp_put oj hsj a oi.dst v h1] at hasks; exact hasks, hlets⟩
    refine .inl ?_
    unfold Oper.wp at *
    rw [execOp_put oj hsj a oi.dst v h1] at h
    generalize (execOp a.eval oj).run P w = r at *
    cases r with
    | ok n w' =>
      cases n <;> simp only [Oper.upon] at h ⊢
      case value u => exact ⟨keep a hy u, by rw [← Act.put_comm a v u h2]; exact h⟩
      case skip => exact ⟨keep a hy _, by rw [← Act.put_comm a v undef h2]; exact h⟩
      case defer d =>
        refine ⟨keep _ (keepD d) _, ?_⟩
        rw [← Act.put_comm _ v undef h2, ← Act.put_defers]
        exact h
      case enter f args =>
        refine Calls.mono h fun e w'' he => ?_
        cases e with
        | returned u => exact ⟨keep a hy u, by rw [← Act.put_comm a v u h2]; exact he⟩
        | panicked c => exact hQ _ _ _ he
        | outgrown => exact he
      case row row args => exact Rows.mono h fun u w'' he => ⟨keep a hy u, by rw [← Act.put_comm a v u h2]; exact he⟩
    | halt x w' =>
      cases x <;> simp only [Oper.upon] at h ⊢
      case panic u => exact hQ _ _ _ h
  · rename_i hw
    simp only [hw] at h
    exact ⟨keep a hy _, by rw [← Act.put_comm a v undef h2]; exact h⟩
def cutS (ops : Array Oper) (G : SEnv) (j : Nat) : SEnv := G.filter fun p => !deps ops p.1 j
/-- Whatever order is picked from here on; and behind an operation the conditions hold of all that may still be to come up. -/
def wpAnyN (P : Program) (ops : Array Oper) (Q : Exit → Act → World → Prop) : Nat → Array Bool → SEnv → Act → World → Prop
  | 0, listed, _, a, w => Region.ready .any ops listed = [] ∧ Q .normal a w
  | fuel + 1, listed, G, a, w =>
    (Region.ready .any ops listed = [] → Q .normal a w) ∧
    ∀ i ∈ Region.ready .any ops listed, wpOp P ops Q i (fun a' w' => ∀ w'', Eqv w' w'' → (∀ p ∈ cutS ops G i, p.2 w''.heap) ∧ wpAnyN P ops Q fuel (listed.setIfInBounds i true) (cutS ops G i) a' w'') a w
theorem wpAny_of_N : ∀ (fuel : Nat) (listed : Array Bool) (G : SEnv) (a : Act) (w : World), wpAnyN P ops Q fuel listed G a w → wpAny P .any ops Q fuel listed a w
  | 0, _, _, _, _, h => h
  | fuel + 1, _, _, _, _, h => ⟨h.1, fun i hi => wpOp_mono (fun a' w' h' => wpAny_of_N fuel _ _ a' w' (h' w' (Eqv.refl w')).2) (h.2 i hi)⟩
theorem wpAnyN_sub : ∀ (fuel : Nat) (listed : Array Bool) (G G' : SEnv) (a : Act) (w : World), (∀ p ∈ G', p ∈ G) → wpAnyN P ops Q fuel listed G a w → wpAnyN P ops Q fuel listed G' a w
  | 0, _, _, _, _, _, _, h => h
  | fuel + 1, _, G, G', _, _, hs, h => by
    have hc : ∀ i, ∀ p ∈ cutS ops G' i, p ∈ cutS ops G i := fun i p hp => by
      simp only [cutS, List.mem_filter] at hp ⊢
      exact ⟨hs p hp.1, hp.2⟩
    exact ⟨h.1, fun i hi => wpOp_mono (fun a' w' h' w'' e => ⟨fun p hp => (h' w'' e).1 p (hc i p hp), wpAnyN_sub fuel _ _ _ a' w'' (hc i) (h' w'' e).2⟩) (h.2 i hi)⟩
theorem wpAnyN_first {i : Nat} {oi : Oper} {v : Value} (hi : ops[i]? = some oi) (hsel : ∀ (j : Nat) (o : Oper) cs b, ops[j]? = some o → o.op ≠ .select cs b)
    (hQ : ∀ c a w, Q (.panic c) (a.put oi.dst v) w → Q (.panic c) a w) :
    ∀ (fuel : Nat) (listed : Array Bool) (G : SEnv) (a : Act) (w : World),
      (∀ j oj, ops[j]? = some oj → j ≠ i → listed.getD j true = false → (∀ e ∈ oj.after, Region.binds .any e = true → e.on ≠ i) → oi.apart ops oj = true) →
      i ∈ Region.ready .any ops listed → Yl P ops S oi v a → S w.heap → (∀ p ∈ G, p.2 w.heap) →
      (∀ w', Eqv w w' → wpAnyN P ops Q fuel (listed.setIfInBounds i true) ((i, S) :: G) (a.put oi.dst v) w') → wpAnyN P ops Q (fuel + 1) listed G a w := by
  have here : ∀ (fuel : Nat) (listed : Array Bool) (G : SEnv) (a : Act) (w : World), Yl P ops S oi v a → S w.heap → (∀ p ∈ G, p.2 w.heap) →
      (∀ w', Eqv w w' → wpAnyN P ops Q fuel (listed.setIfInBounds i true) ((i, S) :: G) (a.put oi.dst v) w') →
      wpOp P ops Q i (fun a' w' => ∀ w'', Eqv w' w'' → (∀ p ∈ cutS ops G i, p.2 w''.heap) ∧ wpAnyN P ops Q fuel (listed.setIfInBounds i true) (cutS ops G i) a' w'') a w := by
    intro fuel listed G a w hy hS hG H
    refine hy.wpOp hi hS fun w' e w'' e' => ⟨fun p hp => ?_, wpAnyN_sub _ _ _ _ _ _ (fun p hp => ?_) (H w'' (e.trans e'))⟩
    · rw [(e.trans e').2]; exact hG p (List.mem_filter.1 hp).1
    · exact List.mem_cons_of_mem _ (List.mem_filter.1 hp).1
  intro fuel
  induction fuel with
  | zero =>
    intro listed G a w _ hr hy hS hG H
    refine ⟨fun h => (by rw [h] at hr; cases hr), fun j hj => ?_⟩
    by_cases hji : j = i
    · subst hji; exact here 0 listed G a w hy hS hG H
    · have := ready_mono hj hji
      rw [(H w (Eqv.refl w)).1] at this
      cases this
  | succ fuel ih =>
    intro listed G a w hfree hr hy hS hG H
    refine ⟨fun h => (by rw [h] at hr; cases hr), fun j hj => ?_⟩
    by_cases hji : j = i
    · subst hji; exact here (fuel + 1) listed G a w hy hS hG H
    · have h1 := (H w (Eqv.refl w)).2 j (ready_mono hj hji)
      obtain ⟨hjun, oj, hoj, hall⟩ := mem_ready.1 hj
      have hiu := (mem_ready.1 hr).1
      have hnot : ∀ e ∈ oj.after, Region.binds .any e = true → e.on ≠ i := fun e he hb heq => by
        have h1 := hall e he hb
        have h0 := hiu
        rw [heq] at h1
        rcases Nat.lt_or_ge i listed.size with h' | h'
        · simp [h'] at h0 h1; rw [h0] at h1; cases h1
        · simp [Array.getElem?_eq_none h'] at h1
      have h2 := wpOp_putYl hoj (hfree j oj hoj hji hjun hnot) (fun cs b => hsel i oi cs b hi) (fun cs b => hsel j oj cs b hoj) hQ hy h1
      have hfree' : ∀ k ok, ops[k]? = some ok → k ≠ i → (listed.setIfInBounds j true).getD k true = false →
          (∀ e ∈ ok.after, Region.binds .any e = true → e.on ≠ i) → oi.apart ops ok = true := fun k ok hk hki hun hno => by
        refine hfree k ok hk hki ?_ hno
        by_cases hjk : j = k
        · subst hjk; exact hjun
        · rw [getD_set_ne true hjk] at hun; exact hun
      have hdj : deps ops i j = false := by
        simp only [deps, hoj, Option.map_some, Option.getD_some]
        cases hx : oj.after.any fun e => Region.binds .any e && e.on == i with
        | false => rfl
        | true =>
          obtain ⟨e, he, hb⟩ := Array.any_eq_true'.1 hx
          simp only [Bool.and_eq_true, beq_iff_eq] at hb
          exact absurd hb.2 (hnot e he hb.1)
      have hcut : cutS ops ((i, S) :: G) j = (i, S) :: cutS ops G j := by simp [cutS, hdj]
      rw [hcut] at h2
      refine wpOp_mono (fun a' w' h3 => fun w'' e => ?_) h2
      have ho := (h3.2 w'' e).1
      refine ⟨fun p hp => ho p (by simp [hp]), ih (listed.setIfInBounds j true) (cutS ops G j) a' w'' hfree' (ready_mono hr (Ne.symm hji)) h3.1 (ho (i, S) (by simp)) (fun p hp => ho p (by simp [hp])) fun w3 e3 => ?_⟩
      rw [Array.setIfInBounds_comm _ _ hji]
      exact (h3.2 w3 (e.trans e3)).2
theorem wpAnyN_add : ∀ (fuel : Nat) (listed : Array Bool) (G G' : SEnv) (a : Act) (w : World), (∀ p ∈ G', p ∈ G ∨ ∀ h, p.2 h) → wpAnyN P ops Q fuel listed G a w → wpAnyN P ops Q fuel listed G' a w
  | 0, _, _, _, _, _, _, h => h
  | fuel + 1, _, G, G', _, _, hs, h => by
    have hc : ∀ i, ∀ p ∈ cutS ops G' i, p ∈ cutS ops G i ∨ ∀ h, p.2 h := fun i p hp => by
      simp only [cutS, List.mem_filter] at hp ⊢
      exact (hs p hp.1).imp (fun h => ⟨h, hp.2⟩) id
    exact ⟨h.1, fun i hi => wpOp_mono (fun a' w' h' w'' e => ⟨fun p hp => (hc i p hp).elim ((h' w'' e).1 p) (fun t => t _), wpAnyN_add fuel _ _ _ a' w'' (hc i) (h' w'' e).2⟩) (h.2 i hi)⟩
theorem wpAnyN_all {rs : List Nat} {fuel : Nat} {listed : Array Bool} {G : SEnv} {a : Act} {w : World} (hr : Region.ready .any ops listed = rs) (hne : rs ≠ [])
    (h : ∀ i ∈ rs, wpOp P ops Q i (fun a' w' => ∀ w'', Eqv w' w'' → (∀ p ∈ cutS ops G i, p.2 w''.heap) ∧ wpAnyN P ops Q fuel (listed.setIfInBounds i true) (cutS ops G i) a' w'') a w) : wpAnyN P ops Q (fuel + 1) listed G a w :=
  ⟨fun h0 => absurd (hr ▸ h0) hne, hr ▸ h⟩
theorem wpAnyN_done {listed : Array Bool} {G : SEnv} {a : Act} {w : World} (hr : Region.ready .any ops listed = []) (h : Q .normal a w) :
    ∀ fuel, wpAnyN P ops Q fuel listed G a w
  | 0 => ⟨hr, h⟩
  | _ + 1 => ⟨fun _ => h, by rw [hr]; simp⟩
theorem wp_region_N {id : Nat} {a : Act} {w : World} (hm : P.follows .mixedOrders = true)
    (h : wpAnyN P ops Q ops.size (Array.replicate ops.size false) [] a { w with drawn := w.drawn + 1 }) : (Code.region id ops true).wp P Q a w :=
  wp_region_any hm (wpAny_of_N _ _ _ _ _ h)
end
def scrOk (ops : Array Oper) : Scr → Nat → Array Bool → List Nat → Bool → List Nat → Bool
  | .done, _, _, rs, fresh, _ => fresh && rs.isEmpty
  | .take i s, fuel + 1, listed, rs, fresh, D =>
    fresh && (Region.free .any ops listed i && (rs.contains i && scrOk ops s fuel (listed.setIfInBounds i true) (Region.ready .any ops (listed.setIfInBounds i true)) true D))
  | .hold i _ s, fuel + 1, listed, rs, fresh, D =>
    fresh && (Region.free .any ops listed i && (rs.contains i && scrOk ops s fuel (listed.setIfInBounds i true) (Region.ready .any ops (listed.setIfInBounds i true)) true (i :: D)))
  | .act i l s, fuel + 1, listed, rs, _, D => (rs == [i]) && ((D.all fun k => deps ops k i || l.any (Nat.beq k)) && scrOk ops s fuel (listed.setIfInBounds i true) (Region.ready .any ops (listed.setIfInBounds i true)) true (D.filter fun k => l.any (Nat.beq k)))
  | .br i l s more, fuel + 1, listed, j :: rs, _, D =>
    Nat.beq i j && (!rs.isEmpty && ((D.all fun k => deps ops k i || l.any (Nat.beq k)) && (scrOk ops s fuel (listed.setIfInBounds i true) (Region.ready .any ops (listed.setIfInBounds i true)) true (D.filter fun k => l.any (Nat.beq k)) && scrOk ops more (fuel + 1) listed rs false D)))
  | _, _, _, _, _, _ => false

section
variable {P : Program} {n : Nat}
theorem agree_put {ops : Array Oper} {o : Oper} (ho : o ∈ ops.toList) {f f0 : Fr} (v : Value) (hag : ∀ t, t ∉ dsts ops.toList → f t = f0 t) : ∀ t, t ∉ dsts ops.toList → putF f o.dst v t = f0 t := by
  intro t ht
  rw [← hag t ht]
  cases hd : o.dst with
  | none => rfl
  | some d =>
    refine upd_other _ _ fun e => ht ?_
    subst e
    exact List.mem_filterMap.2 ⟨o, ho, hd⟩
theorem yields_of_qG2 {S : Heap → Prop} {C : FuncId → List Value → (Value → Prop) → Prop} {R : Sem Value → (Value → Prop) → Prop} (hC : ∀ g as k, C g as k → qc P S g as k) (hR : ∀ s k, R s k → qs P S s k) {ops : Array Oper} {a : Act} {f : Fr} {o : Oper} {k : Value → Prop} (hk : qG2 C R ops.toList f o k) (hok : dstsOk n ops.toList = true) (hf : FrameOk n a f) :
    ∃ v, Yl P ops S o v a ∧ k v := by
  have one : ∀ (hw : Region.wanted o (yielded ops a.tmps) = true), qK2 C R f o k → ∃ v, Yl P ops S o v a ∧ k v := by
    intro hw hk
    have old : qK R f o k → ∃ v, Yl P ops S o v a ∧ k v := fun hk => by
      obtain ⟨v, hv, hkv⟩ := exec_qK hR hk
      exact ⟨v, .inl ⟨hw, fun w hS => ⟨.value v, w, by rw [hf.eval]; exact hv w hS, rfl, Eqv.refl w⟩⟩, hkv⟩
    unfold qK2 at hk
    split at hk
    · rename_i g args ats hop
      obtain ⟨v, hv, hkv⟩ := hC _ _ _ hk
      refine ⟨v, .inl ⟨hw, fun w hS => ?_⟩, hkv⟩
      have hx : execOp (evF f) o = callFunc g ⟨args.toList.map (evF f)⟩ := by
        obtain ⟨dst, op, ty, pos, after, guard⟩ := o
        simp only at hop
        subst hop
        rw [arr_map]
        simp [execOp, resolve, Deferred.ofValue, invoke, evF]
      obtain ⟨nx, w', hr, hsm, hkv⟩ := hv _ hS w rfl
      refine ⟨nx, w', by rw [hf.eval, hx]; exact hr, ?_⟩
      cases nx <;> simp only at hkv
      case value u => exact ⟨hkv.1, hsm, hkv.2⟩
      case skip => exact ⟨hkv.1.symm, hsm, hkv.2⟩
      case enter g' as =>
        refine Calls.mono hkv fun e w'' he => ?_
        cases e with
        | returned u => exact ⟨by rw [he.2.1], hsm.trans he.1, he.2.2⟩
        | panicked c => exact he.elim
        | outgrown => exact he.elim
    · exact old hk
  unfold qG2 at hk
  split at hk
  · rename_i hg
    exact one (by simp [Region.wanted, hg]) hk
  · rename_i j want hg
    split at hk
    · rename_i d hd
      obtain ⟨o', ho', hd'⟩ := dstAt_mem hd
      have hwa := wanted_eq hf hg hd (dstsOk_mem hok ho' d hd')
      cases hb : isB (f d) want with
      | true => rw [hb] at hk; exact one (by rw [hwa, hb]) hk
      | false => rw [hb] at hk; exact ⟨undef, .inr ⟨by rw [hwa, hb], rfl⟩, hk⟩
    · exact hk.elim
theorem keep_keys : ∀ (E : SEnv) (l : List Nat), (keep E l).map (·.1) = (E.map (·.1)).filter fun k => l.any (Nat.beq k)
  | [], _ => rfl
  | (i, S) :: E, l => by
    simp only [keep, List.map_cons, List.filter_cons]
    cases l.any (Nat.beq i) <;> simp [keep_keys E l]
theorem keep_mem : ∀ {E : SEnv} {l : List Nat} {p : Nat × (Heap → Prop)}, p ∈ E → l.any (Nat.beq p.1) = true → p ∈ keep E l
  | (i, S) :: E, l, p, hp, hl => by
    simp only [keep]
    rcases List.mem_cons.1 hp with rfl | hp
    · dsimp only at hl; rw [hl]; simp
    · cases l.any (Nat.beq i)
      · exact keep_mem hp hl
      · exact List.mem_cons_of_mem _ (keep_mem hp hl)
theorem allS_mem : ∀ {E : SEnv} {h : Heap} {X : Prop}, allS E h X → X ∧ ∀ p ∈ E, p.2 h
  | [], _, _, hx => ⟨hx, by simp⟩
  | (i, S) :: E, h, X, hx => by
    obtain ⟨h1, h2⟩ := allS_mem hx.2
    exact ⟨h1, fun p hp => by rcases List.mem_cons.1 hp with rfl | hp; exact hx.1; exact h2 p hp⟩
theorem cut_keep {ops : Array Oper} {E : SEnv} {l : List Nat} {i : Nat} (h : ((E.map (·.1)).all fun k => deps ops k i || l.any (Nat.beq k)) = true) : ∀ p ∈ cutS ops E i, p ∈ keep E l := by
  intro p hp
  simp only [cutS, List.mem_filter, Bool.not_eq_true'] at hp
  have := List.all_eq_true.1 h p.1 (List.mem_map_of_mem hp.1)
  rw [hp.2, Bool.false_or] at this
  exact keep_mem hp.1 this
theorem dwp_sound {ops : Array Oper} (hok : dstsOk n ops.toList = true) (hsel : Region.noSelect ops = true) {Q : CQ} {f0 : Fr} {w0 : World} : ∀ (s : Scr) (fuel : Nat) (listed : Array Bool) (rs : List Nat) (fresh : Bool) (E : SEnv) (f : Fr) (a : Act) (w : World),
    scrOk ops s fuel listed rs fresh (E.map (·.1)) = true → dwp P ops.toList (Q .normal) s f w.heap E → FrameOk n a f → (∀ p ∈ E, p.2 w.heap) → (∀ t, t ∉ dsts ops.toList → f t = f0 t) → Sm w0 w →
    (fresh = true → rs = Region.ready .any ops listed → wpAnyN P ops (lift n f0 (dsts ops.toList) Q w0) fuel listed E a w) ∧
    ((∀ i s', s ≠ .take i s') → (∀ i q s', s ≠ .hold i q s') → ∀ m, fuel = m + 1 → ∀ i ∈ rs, wpOp P ops (lift n f0 (dsts ops.toList) Q w0) i (fun a' w' => ∀ w'', Eqv w' w'' → (∀ p ∈ cutS ops E i, p.2 w''.heap) ∧ wpAnyN P ops (lift n f0 (dsts ops.toList) Q w0) m (listed.setIfInBounds i true) (cutS ops E i) a' w'') a w) := by
  have one : ∀ (s : Scr), (∀ (fuel : Nat) (listed : Array Bool) (rs : List Nat) (fresh : Bool) (E : SEnv) (f : Fr) (a : Act) (w : World),
      scrOk ops s fuel listed rs fresh (E.map (·.1)) = true → dwp P ops.toList (Q .normal) s f w.heap E → FrameOk n a f → (∀ p ∈ E, p.2 w.heap) → (∀ t, t ∉ dsts ops.toList → f t = f0 t) → Sm w0 w →
      (fresh = true → rs = Region.ready .any ops listed → wpAnyN P ops (lift n f0 (dsts ops.toList) Q w0) fuel listed E a w)) →
      ∀ (i m : Nat) (l : List Nat) (listed : Array Bool) (E : SEnv) (f : Fr) (a : Act) (w : World), ((E.map (·.1)).all fun k => deps ops k i || l.any (Nat.beq k)) = true →
      scrOk ops s m (listed.setIfInBounds i true) (Region.ready .any ops (listed.setIfInBounds i true)) true ((E.map (·.1)).filter fun k => l.any (Nat.beq k)) = true →
      dopG P ops.toList f i w.heap (fun f' h' => allS (keep E l) h' (dwp P ops.toList (Q .normal) s f' h' (keep E l))) → FrameOk n a f → (∀ t, t ∉ dsts ops.toList → f t = f0 t) → Sm w0 w →
      wpOp P ops (lift n f0 (dsts ops.toList) Q w0) i (fun a' w' => ∀ w'', Eqv w' w'' → (∀ p ∈ cutS ops E i, p.2 w''.heap) ∧ wpAnyN P ops (lift n f0 (dsts ops.toList) Q w0) m (listed.setIfInBounds i true) (cutS ops E i) a' w'') a w := by
    intro s ih i m l listed E f a w hl hs hd hf hag hsm
    unfold dopG at hd
    split at hd
    · rename_i o ho
      have hoi : ops[i]? = some o := by simpa using ho
      unfold wpOp
      simp only [hoi]
      have hmem : o ∈ ops.toList := List.mem_of_getElem? ho
      refine opG_sound (n := n) hd hok hf rfl ?_
      intro v w' hsm' hk w'' e
      obtain ⟨hd', hS⟩ := allS_mem hk
      have hS' : ∀ p ∈ keep E l, p.2 w''.heap := fun p hp => by rw [e.2]; exact hS p hp
      exact ⟨fun p hp => hS' p (cut_keep hl p hp), wpAnyN_sub _ _ _ _ _ _ (cut_keep hl) (ih m _ _ true (keep E l) _ _ w'' (by rw [keep_keys]; exact hs) (by rw [e.2]; exact hd') (hf.put (dstsOk_mem hok hmem) v) hS' (agree_put hmem v hag) ((hsm.trans hsm').trans e.1) rfl rfl)⟩
    · exact hd.elim
  intro s
  induction s with
  | done =>
    intro fuel listed rs fresh E f a w hs hd hf hS hag hsm
    simp only [scrOk, Bool.and_eq_true, List.isEmpty_iff] at hs
    refine ⟨fun _ hr => wpAnyN_done (by rw [← hr, hs.2]) ⟨f, hf, hag, hsm, hd⟩ _, fun _ _ m _ i hi => ?_⟩
    rw [hs.2] at hi
    cases hi
  | take i s ih =>
    intro fuel listed rs fresh E f a w hs hd hf hS hag hsm
    refine ⟨fun _ hr => ?_, fun h => absurd rfl (h i s)⟩
    cases fuel with
    | zero => simp [scrOk] at hs
    | succ m =>
      simp only [scrOk, Bool.and_eq_true] at hs
      obtain ⟨_, hfree, hcon, hs⟩ := hs
      simp only [dwp, dqG] at hd
      split at hd
      · rename_i o ho
        have hoi : ops[i]? = some o := by simpa using ho
        have hmem : o ∈ ops.toList := List.mem_of_getElem? ho
        obtain ⟨v, hy, hk⟩ := yields_of_qG2 (S := fun _ => True) (fun _ _ _ h => h) (fun _ _ h => h) hd hok hf
        have hr' : i ∈ Region.ready .any ops listed := by rw [← hr]; simpa using hcon
        have hfr := Region.free_spec hoi hfree
        have hsl := Region.noSelect_spec hsel
        refine wpAnyN_first (S := fun _ => True) hoi hsl (fun c a w h => h.elim) m listed E a w hfr hr' hy trivial hS fun w' e => ?_
        -- the condition that always holds may stand among the others
        have key := (ih m (listed.setIfInBounds i true) _ true E _ _ w' hs (by rw [e.2]; exact hk) (hf.put (dstsOk_mem hok hmem) v) (fun p hp => by rw [e.2]; exact hS p hp) (agree_put hmem v hag) (hsm.trans e.1)).1 rfl rfl
        exact wpAnyN_add _ _ E _ _ _ (fun p hp => by rcases List.mem_cons.1 hp with rfl | hp; exact .inr fun _ => trivial; exact .inl hp) key
      · exact hd.elim
  | hold i q s ih =>
    intro fuel listed rs fresh E f a w hs hd hf hS hag hsm
    refine ⟨fun _ hr => ?_, fun _ h => absurd rfl (h i q s)⟩
    cases fuel with
    | zero => simp [scrOk] at hs
    | succ m =>
      simp only [scrOk, Bool.and_eq_true] at hs
      obtain ⟨_, hfree, hcon, hs⟩ := hs
      have hr' : i ∈ Region.ready .any ops listed := by rw [← hr]; simpa using hcon
      have hsl := Region.noSelect_spec hsel
      simp only [dwp] at hd
      have fin : ∀ (S : Heap → Prop) (C : FuncId → List Value → (Value → Prop) → Prop) (R : Sem Value → (Value → Prop) → Prop), (∀ g as k, C g as k → qc P S g as k) → (∀ s k, R s k → qs P S s k) → S w.heap →
          dqG C R ops.toList f i (fun f' => dwp P ops.toList (Q .normal) s f' w.heap ((i, S) :: E)) → wpAnyN P ops (lift n f0 (dsts ops.toList) Q w0) (m + 1) listed E a w := by
        intro S C R hC hR hSw hd
        simp only [dqG] at hd
        split at hd
        · rename_i o ho
          have hoi : ops[i]? = some o := by simpa using ho
          have hmem : o ∈ ops.toList := List.mem_of_getElem? ho
          obtain ⟨v, hy, hk⟩ := yields_of_qG2 hC hR hd hok hf
          have hfr := Region.free_spec hoi hfree
          refine wpAnyN_first hoi hsl (fun c a w h => h.elim) m listed E a w hfr hr' hy hSw hS fun w' e => ?_
          exact (ih m (listed.setIfInBounds i true) _ true ((i, S) :: E) _ _ w' hs (by rw [e.2]; exact hk) (hf.put (dstsOk_mem hok hmem) v) (fun p hp => by rw [e.2]; rcases List.mem_cons.1 hp with rfl | hp; exact hSw; exact hS p hp) (agree_put hmem v hag) (hsm.trans e.1)).1 rfl rfl
        · exact hd.elim
      cases q with
      | true => exact fin (fun h' => h' = w.heap) _ _ (fun _ _ _ => rc_qc) (fun _ _ => qs_rd) rfl hd
      | false =>
        obtain ⟨S, hSw, hd⟩ := hd
        exact fin S _ _ (fun _ _ _ h => h) (fun _ _ h => h) hSw hd
  | act i l s ih =>
    intro fuel listed rs fresh E f a w hs hd hf hS hag hsm
    have B : ∀ m, fuel = m + 1 → ∀ j ∈ rs, wpOp P ops (lift n f0 (dsts ops.toList) Q w0) j (fun a' w' => ∀ w'', Eqv w' w'' → (∀ p ∈ cutS ops E j, p.2 w''.heap) ∧ wpAnyN P ops (lift n f0 (dsts ops.toList) Q w0) m (listed.setIfInBounds j true) (cutS ops E j) a' w'') a w := by
      rintro m rfl j hj
      simp only [scrOk, Bool.and_eq_true, beq_iff_eq] at hs
      obtain ⟨hrs, hl, hs⟩ := hs
      rw [hrs] at hj
      simp at hj
      subst hj
      exact one s (fun fuel listed rs fresh E f a w h1 h2 h3 h4 h5 h6 => (ih fuel listed rs fresh E f a w h1 h2 h3 h4 h5 h6).1) j m l listed E f a w hl hs hd hf hag hsm
    refine ⟨fun _ hr => ?_, fun _ _ => B⟩
    cases fuel with
    | zero => simp [scrOk] at hs
    | succ m =>
      refine wpAnyN_all hr.symm ?_ (B m rfl)
      simp only [scrOk, Bool.and_eq_true, beq_iff_eq] at hs
      rw [hs.1]; simp
  | br i l s more ih ihm =>
    intro fuel listed rs fresh E f a w hs hd hf hS hag hsm
    have B : ∀ m, fuel = m + 1 → ∀ j ∈ rs, wpOp P ops (lift n f0 (dsts ops.toList) Q w0) j (fun a' w' => ∀ w'', Eqv w' w'' → (∀ p ∈ cutS ops E j, p.2 w''.heap) ∧ wpAnyN P ops (lift n f0 (dsts ops.toList) Q w0) m (listed.setIfInBounds j true) (cutS ops E j) a' w'') a w := by
      rintro m rfl j hj
      cases rs with
      | nil => cases hj
      | cons r rs =>
        simp only [scrOk, Bool.and_eq_true] at hs
        obtain ⟨he, hne, hl, hs1, hs2⟩ := hs
        have he' : i = r := Nat.eq_of_beq_eq_true he
        subst he'
        rcases List.mem_cons.1 hj with rfl | hj
        · exact one s (fun fuel listed rs fresh E f a w h1 h2 h3 h4 h5 h6 => (ih fuel listed rs fresh E f a w h1 h2 h3 h4 h5 h6).1) j m l listed E f a w hl hs1 hd.1 hf hag hsm
        · have hnt : ∀ i s', more ≠ .take i s' := by
            intro i s' e
            subst e
            simp [scrOk] at hs2
          have hnh : ∀ i q s', more ≠ .hold i q s' := by
            intro i q s' e
            subst e
            simp [scrOk] at hs2
          exact (ihm (m + 1) listed rs false E f a w hs2 hd.2 hf hS hag hsm).2 hnt hnh m rfl j hj
    refine ⟨fun _ hr => ?_, fun _ _ => B⟩
    cases fuel with
    | zero => cases rs <;> simp [scrOk] at hs
    | succ m =>
      refine wpAnyN_all hr.symm ?_ (B m rfl)
      intro e
      rw [e] at hs
      simp [scrOk] at hs
end

def writes : Code → List Nat
  | .region _ ops _ => dsts ops.toList
  | .seq a b => writes a ++ writes b
  | .cond _ a b => writes a ++ writes b
  | .block _ c => writes c
  | .loop c => writes c
  | _ => []
def codeOk (n : Nat) (A : Ann) : Code → Bool
  | .region _ ops false => dstsOk n ops.toList
  | .region id ops true =>
    dstsOk n ops.toList && (Region.noSelect ops && match lookD A.draws id with
      | some s => scrOk ops s ops.size (Array.replicate ops.size false) (Region.ready .any ops (Array.replicate ops.size false)) true []
      | none => false)
  | .seq a b => codeOk n A a && codeOk n A b
  | .cond _ a b => codeOk n A a && codeOk n A b
  | .block _ c => codeOk n A c
  | .loop c => codeOk n A c && (writes c).all fun t => ((lookL A.loops (firstId c)).1 ++ (lookL A.loops (firstId c)).2).contains t
  | _ => true

theorem All.at {n : Nat} {p : List Value → Prop} (h : All n p) : ∀ l : List Value, l.length = n → p l := by
  induction n generalizing p with
  | zero => intro l hl; cases l with | nil => exact h | cons _ _ => simp at hl
  | succ n ih =>
    intro l hl
    cases l with
    | nil => simp at hl
    | cons v l => exact ih (h v) l (by simpa using hl)
theorem selF_length (f : Fr) (l : List Nat) : (selF f l).length = l.length := by induction l <;> simp [selF, *]
theorem mixL_sel (g f : Fr) (l : List Nat) (t : Nat) : mixL g l (selF f l) t = if t ∈ l then f t else g t := by
  induction l with
  | nil => simp [mixL]
  | cons d l ih =>
    simp only [selF, mixL]
    by_cases e : t = d
    · subst e; rw [upd_same]; simp
    · rw [upd_other _ _ e, ih]; simp [e]
theorem mixD_at (f : Fr) (g : Nat → Value) (l : List Nat) (t : Nat) : mixD f g l t = if t ∈ l then g t else f t := by
  induction l with
  | nil => simp [mixD]
  | cons d l ih =>
    simp only [mixD]
    by_cases e : t = d
    · subst e; rw [upd_same]; simp
    · rw [upd_other _ _ e, ih]; simp [e]
theorem mix_self {f f' : Fr} {live dead : List Nat} (h : ∀ t, t ∉ live → t ∉ dead → f' t = f t) : mixL (mixD f f' dead) live (selF f' live) = f' := by
  funext t
  rw [mixL_sel, mixD_at]
  by_cases h1 : t ∈ live
  · simp [h1]
  · by_cases h2 : t ∈ dead
    · simp [h1, h2]
    · simp [h1, h2, h t h1 h2]

theorem cwp_sound {P : Program} {n : Nat} {A : Ann} (hm : P.follows .mixedOrders = true) : ∀ (c : Code) (Q : CQ) (f : Fr) (a : Act) (w : World),
    codeOk n A c = true → cwp P A c Q f w.heap → FrameOk n a f → c.wp P (lift n f (writes c) Q w) a w := by
  intro c
  induction c with
  | skip => intro Q f a w _ h hf; exact wp_skip ⟨f, hf, fun _ _ => rfl, Sm.refl w, h⟩
  | ret => intro Q f a w _ h hf; exact wp_ret ⟨f, hf, fun _ _ => rfl, Sm.refl w, h⟩
  | exit id => intro Q f a w _ h hf; exact wp_exit ⟨f, hf, fun _ _ => rfl, Sm.refl w, h⟩
  | scope c => intro Q f a w _ h; exact h.elim
  | label l => intro Q f a w _ h; exact h.elim
  | goto l => intro Q f a w _ h; exact h.elim
  | refuse y => intro Q f a w _ h; exact h.elim
  | rangeFunc g ps x y => intro Q f a w _ h; exact h.elim
  | region id ops draw =>
    intro Q f a w hok h hf
    cases draw with
    | false => exact wp_region_list (seqW_sound hok ops.toList (fun _ h => h) f w.heap a w h hf rfl (fun _ _ => rfl) (Sm.refl w))
    | true =>
      simp only [codeOk, Bool.and_eq_true] at hok
      obtain ⟨h1, h2, h3⟩ := hok
      rw [cwp_draw] at h
      split at h
      · exact h.elim
      · rename_i s hs
        rw [hs] at h3
        refine wp_region_N hm ?_
        exact (dwp_sound (f0 := f) (w0 := w) h1 h2 s _ _ _ true [] f a { w with drawn := w.drawn + 1 } h3 h hf (by simp) (fun _ _ => rfl) (Sm.drew1 w)).1 rfl rfl
  | seq x y ihx ihy =>
    intro Q f a w hok h hf
    simp only [codeOk, Bool.and_eq_true] at hok
    refine wp_seq (wp_mono (ihx _ f a w hok.1 h hf) ?_)
    intro e a1 w1 h1
    cases e with
    | outgrown => exact h1.elim
    | panic c => exact h1.elim
    | normal =>
      obtain ⟨f1, hf1, hag, hsm, hk⟩ := h1
      exact wp_mono (ihy _ f1 a1 w1 hok.2 hk hf1) (lift_then hag hsm)
    | exit id => obtain ⟨f1, hf1, hag, hsm, hk⟩ := h1; exact ⟨f1, hf1, fun t ht => hag t fun hm => ht (List.mem_append_left _ hm), hsm, hk⟩
    | goto l => obtain ⟨f1, hf1, hag, hsm, hk⟩ := h1; exact ⟨f1, hf1, fun t ht => hag t fun hm => ht (List.mem_append_left _ hm), hsm, hk⟩
    | ret => obtain ⟨f1, hf1, hag, hsm, hk⟩ := h1; exact ⟨f1, hf1, fun t ht => hag t fun hm => ht (List.mem_append_left _ hm), hsm, hk⟩
  | cond c x y ihx ihy =>
    intro Q f a w hok h hf
    simp only [codeOk, Bool.and_eq_true] at hok
    obtain ⟨b, hc, ht, hff⟩ := h
    have hc' : a.eval c = .bool b := by rw [hf.eval]; exact hc
    cases b with
    | true => exact wp_cond hc' (wp_mono (ihx _ f a w hok.1 (ht rfl) hf) (lift_mono fun t h => List.mem_append_left _ h))
    | false => exact wp_cond hc' (wp_mono (ihy _ f a w hok.2 (hff rfl) hf) (lift_mono fun t h => List.mem_append_right _ h))
  | block id c ih =>
    intro Q f a w hok h hf
    refine wp_block (wp_mono (ih _ f a w hok h hf) ?_)
    intro e a1 w1 h1
    cases e with
    | outgrown => exact h1.elim
    | panic c => exact h1.elim
    | exit i =>
      obtain ⟨f1, hf1, hag, hsm, hk⟩ := h1
      simp only [blockQ] at hk
      simp only [Exit.inBlock]
      by_cases e : i = id
      · subst e
        rw [if_pos rfl]
        have : Nat.beq i i = true := by simp
        rw [this] at hk
        exact ⟨f1, hf1, hag, hsm, hk⟩
      · rw [if_neg e]
        have : Nat.beq i id = false := by
          cases hb : Nat.beq i id with
          | false => rfl
          | true => exact absurd (Nat.eq_of_beq_eq_true hb) e
        rw [this] at hk
        exact ⟨f1, hf1, hag, hsm, hk⟩
    | normal => exact h1
    | goto l => exact h1
    | ret => exact h1
  | loop c ih =>
    intro Q f a w hok h hf
    simp only [codeOk, Bool.and_eq_true, List.all_eq_true] at hok
    obtain ⟨hok, hwr⟩ := hok
    generalize hld : lookL A.loops (firstId c) = ld at hwr
    obtain ⟨live, dead⟩ := ld
    rw [cwp_loop, hld] at h
    obtain ⟨I, μ, h0, hround⟩ := h
    refine wp_loop (fun a' w' => ∃ f', FrameOk n a' f' ∧ (∀ t, t ∉ writes c → f' t = f t) ∧ Sm w w' ∧ I (selF f' live) w'.heap)
      (fun a' w' => μ (selF (fun t => a'.tmps.getD t undef) live) w'.heap) ⟨f, hf, fun _ _ => rfl, Sm.refl w, h0⟩ ?_
    rintro a1 w1 ⟨f1, hf1, hag, hsm, hI⟩
    have hsame : (fun t => a1.tmps.getD t undef) = f1 := funext hf1.2.1
    have hr := All.at hround (selF f1 live) (selF_length f1 live) f1 w1.heap hI
    have hmix : mixL (mixD f f1 dead) live (selF f1 live) = f1 := mix_self fun t h1 h2 => hag t fun hm => by
      have := hwr t hm
      simp only [List.contains_eq_mem, List.mem_append, decide_eq_true_eq] at this
      exact this.elim h1 h2
    dsimp only at hr
    rw [hmix] at hr
    refine wp_mono (ih _ f1 a1 w1 hok hr hf1) ?_
    intro e a2 w2 h2
    cases e with
    | outgrown => exact h2.elim
    | panic c => exact h2.elim
    | normal =>
      obtain ⟨f2, hf2, hag2, hsm2, hk⟩ := h2
      refine ⟨⟨f2, hf2, fun t ht => (hag2 t ht).trans (hag t ht), hsm.trans hsm2, hk.1⟩, ?_⟩
      show μ _ _ < μ _ _
      rw [hsame, show (fun t => a2.tmps.getD t undef) = f2 from funext hf2.2.1]
      exact hk.2
    | exit i => obtain ⟨f2, hf2, hag2, hsm2, hk⟩ := h2; exact ⟨f2, hf2, fun t ht => (hag2 t ht).trans (hag t ht), hsm.trans hsm2, hk⟩
    | goto i => obtain ⟨f2, hf2, hag2, hsm2, hk⟩ := h2; exact ⟨f2, hf2, fun t ht => (hag2 t ht).trans (hag t ht), hsm.trans hsm2, hk⟩
    | ret => obtain ⟨f2, hf2, hag2, hsm2, hk⟩ := h2; exact ⟨f2, hf2, fun t ht => (hag2 t ht).trans (hag t ht), hsm.trans hsm2, hk⟩

theorem load_run {P : Program} {t : TypeId} {x v : Value} {h : Heap} (hr : Rd P h (Instr.loadAt t x) v) (w : World) (hw : w.heap = h) : (do loadVar t (← asAddr x) : Sem Value).run P w = .ok v w := by
  have := hr w hw
  unfold Instr.loadAt Instr.sureAddr at this
  split at this
  · simpa [asAddr] using this
  · simp at this
theorem resQ_run {n : Nat} {P : Program} {fn : Func} {a : Act} {f : Fr} {k : List Value → Prop} (hf : FrameOk n a f) (w : World) (h : resQ P f w.heap fn.results.toList k) : ∃ vs, (results fn a.tmps).run P w = .ok (resV vs) w ∧ k vs := by
  have key : ∀ (F : ResultVar → Sem Value), (∀ t, F (.tmp t) = pure (a.tmps.getD t undef)) → (∀ x t, F (.cell x t) = (do loadVar t (← asAddr (a.tmps.getD x undef)))) →
      ∀ (l : List ResultVar) (k : List Value → Prop), resQ P f w.heap l k → ∃ vs, (l.mapM F).run P w = .ok vs w ∧ k vs := by
    intro F hF hG l
    induction l with
    | nil => intro k h; exact ⟨[], rfl, h⟩
    | cons r l ih =>
      intro k h
      cases r with
      | cell x t =>
        obtain ⟨v, hr, h⟩ := h
        obtain ⟨vs, h1, h2⟩ := ih _ h
        refine ⟨v :: vs, ?_, h2⟩
        have hl := load_run hr w rfl
        rw [← hf.2.1 x] at hl
        simp only [List.mapM_cons, hG, Sem.run_bind] at hl ⊢
        rw [hl]
        simp only [Result.andThen_ok, Sem.run_pure, h1]
      | tmp t =>
        obtain ⟨vs, h1, h2⟩ := ih _ h
        refine ⟨f t :: vs, ?_, h2⟩
        simp only [List.mapM_cons, hF, Sem.run_bind, Sem.run_pure, Result.andThen_ok, h1, hf.2.1 t]
  have fin : ∀ (F : ResultVar → Sem Value), (∀ t, F (.tmp t) = pure (a.tmps.getD t undef)) → (∀ x t, F (.cell x t) = (do loadVar t (← asAddr (a.tmps.getD x undef)))) →
      ∃ vs, (do let vs ← List.toArray <$> fn.results.toList.mapM F; pure (if h : vs.size = 1 then vs[0] else .tuple vs) : Sem Value).run P w = .ok (resV vs) w ∧ k vs := by
    intro F hF hG
    obtain ⟨vs, h1, h2⟩ := key F hF hG _ _ h
    refine ⟨vs, ?_, h2⟩
    simp only [Sem.run_bind, Sem.run_map, h1, Result.andThen_ok, Sem.run_pure]
    congr 1
    match vs with
    | [] => rfl
    | [v] => rfl
    | v :: u :: l => simp [resV]
  unfold results
  rw [Array.mapM_eq_mapM_toList]
  exact fin _ (fun _ => rfl) (fun _ _ => rfl)

def fnOk (fn : Func) (A : Ann) (c : Code) (k : Nat) : Bool := codeOk fn.ntmps A c && Nat.ble k fn.ntmps && !(fn.name == "runtime.NumGoroutine")
theorem lget_eq (l : List Value) (t : Nat) : lget l t = (l[t]?).getD undef := by
  induction l generalizing t with
  | nil => simp [lget]
  | cons v l ih => cases t <;> simp [lget, ih]
theorem fn_ok {P : Program} {A : Ann} {g : FuncId} {fn : Func} {c : Code} {args : List Value} {h : Heap} {Q : Value → Heap → Prop} (hm : P.follows .mixedOrders = true)
    (hf : P.funcs[g]? = some fn) (hb : fn.body = some c) (hok : fnOk fn A c args.length = true) (hw : fnwp P A c fn.results.toList args h Q) : callF P g args h Q := by
  simp only [fnOk, Bool.and_eq_true, Bool.not_eq_true', Nat.ble_eq] at hok
  obtain ⟨⟨hc, hk⟩, hn⟩ := hok
  intro w hwh
  refine ⟨.enter g ⟨args⟩, w, ?_, Sm.refl w, ?_⟩
  · have hn' : ¬ fn.name = "runtime.NumGoroutine" := by simpa using hn
    simp [callFunc, hf, hn', hb]
  · refine calls_of_wp hf hb ?_
    have hfr : FrameOk fn.ntmps { tmps := ⟨args⟩ ++ Array.replicate (fn.ntmps - (⟨args⟩ : Array Value).size) undef, defers := [] } (lget args) := by
      refine ⟨by simp; omega, fun t => ?_, rfl⟩
      rw [lget_eq]
      simp only [Array.getD_eq_getD_getElem?, Array.getElem?_append]
      by_cases ht : t < args.length
      · simp [ht]
      · simp [ht, Array.getElem?_replicate]
        split <;> rfl
    refine wp_mono (cwp_sound hm c _ _ _ w hc (hwh ▸ hw) hfr) ?_
    have fin : ∀ a' w' f', FrameOk fn.ntmps a' f' → Sm w w' → (resQ P f' w'.heap fn.results.toList fun vs => Q (resV vs) w'.heap) → a'.defers = [] ∧ ∃ v, (results fn a'.tmps).run P w' = .ok v w' ∧ CR w Q (.returned v) w' := by
      intro a' w' f' hf' hsm hq
      obtain ⟨vs, h1, h2⟩ := resQ_run hf' w' hq
      exact ⟨hf'.2.2, _, h1, hsm, h2⟩
    intro e a' w' he
    cases e with
    | outgrown => exact he.elim
    | panic c => exact he.elim
    | normal => obtain ⟨f', hf', _, hsm, hq⟩ := he; exact fin a' w' f' hf' hsm hq
    | ret => obtain ⟨f', hf', _, hsm, hq⟩ := he; exact fin a' w' f' hf' hsm hq
    | exit i => obtain ⟨f', hf', _, hsm, hq⟩ := he; exact hq.elim
    | goto i => obtain ⟨f', hf', _, hsm, hq⟩ := he; exact hq.elim
/-! ### Words of the printed texts -/
/-- Where ways meet again. -/
def jn {α : Type} (K : α) (A : α → Prop) : Prop := A K
def lp0 (h0 : Heap) (body : (List Value → Heap → Prop) → (Nat → Value) → Heap → Prop) : Prop :=
  ∃ (I : List Value → Heap → Prop) (μ : List Value → Heap → Nat), I [] h0 ∧ ∀ (g : Nat → Value) (h : Heap), I [] h → body (fun zs h' => I zs h' ∧ μ zs h' < μ [] h)  g h
theorem lp0_of {h0 : Heap} {body : (List Value → Heap → Prop) → (Nat → Value) → Heap → Prop} (I : Heap → Prop) (μ : Heap → Nat) (h : I  h0)
    (round : ∀ (g : Nat → Value) (h : Heap), I  h → ∀ k : List Value → Heap → Prop, (∀ h', I  h' → μ  h' < μ  h → k [] h') → body k  g h) : lp0  h0 body :=
  ⟨fun l h => match l with | [] => I  h | _ => False, fun l h => match l with | [] => μ  h | _ => 0, h, fun g h hI => round  g h hI _ fun _ hI' hm => ⟨hI', hm⟩⟩
def lp1 (x0 : Value) (h0 : Heap) (body : (List Value → Heap → Prop) → Value → (Nat → Value) → Heap → Prop) : Prop :=
  ∃ (I : List Value → Heap → Prop) (μ : List Value → Heap → Nat), I [x0] h0 ∧ ∀ y0 : Value, ∀ (g : Nat → Value) (h : Heap), I [y0] h → body (fun zs h' => I zs h' ∧ μ zs h' < μ [y0] h) y0 g h
theorem lp1_of {x0 : Value} {h0 : Heap} {body : (List Value → Heap → Prop) → Value → (Nat → Value) → Heap → Prop} (I : Value → Heap → Prop) (μ : Value → Heap → Nat) (h : I x0 h0)
    (round : ∀ y0 : Value, ∀ (g : Nat → Value) (h : Heap), I y0 h → ∀ k : List Value → Heap → Prop, (∀ z0 h', I z0 h' → μ z0 h' < μ y0 h → k [z0] h') → body k y0 g h) : lp1 x0 h0 body :=
  ⟨fun l h => match l with | [x0] => I x0 h | _ => False, fun l h => match l with | [x0] => μ x0 h | _ => 0, h, fun y0 g h hI => round y0 g h hI _ fun _ _ hI' hm => ⟨hI', hm⟩⟩
def lp2 (x0 x1 : Value) (h0 : Heap) (body : (List Value → Heap → Prop) → Value → Value → (Nat → Value) → Heap → Prop) : Prop :=
  ∃ (I : List Value → Heap → Prop) (μ : List Value → Heap → Nat), I [x0, x1] h0 ∧ ∀ y0 y1 : Value, ∀ (g : Nat → Value) (h : Heap), I [y0, y1] h → body (fun zs h' => I zs h' ∧ μ zs h' < μ [y0, y1] h) y0 y1 g h
theorem lp2_of {x0 x1 : Value} {h0 : Heap} {body : (List Value → Heap → Prop) → Value → Value → (Nat → Value) → Heap → Prop} (I : Value → Value → Heap → Prop) (μ : Value → Value → Heap → Nat) (h : I x0 x1 h0)
    (round : ∀ y0 y1 : Value, ∀ (g : Nat → Value) (h : Heap), I y0 y1 h → ∀ k : List Value → Heap → Prop, (∀ z0 z1 h', I z0 z1 h' → μ z0 z1 h' < μ y0 y1 h → k [z0, z1] h') → body k y0 y1 g h) : lp2 x0 x1 h0 body :=
  ⟨fun l h => match l with | [x0, x1] => I x0 x1 h | _ => False, fun l h => match l with | [x0, x1] => μ x0 x1 h | _ => 0, h, fun y0 y1 g h hI => round y0 y1 g h hI _ fun _ _ _ hI' hm => ⟨hI', hm⟩⟩
def lp3 (x0 x1 x2 : Value) (h0 : Heap) (body : (List Value → Heap → Prop) → Value → Value → Value → (Nat → Value) → Heap → Prop) : Prop :=
  ∃ (I : List Value → Heap → Prop) (μ : List Value → Heap → Nat), I [x0, x1, x2] h0 ∧ ∀ y0 y1 y2 : Value, ∀ (g : Nat → Value) (h : Heap), I [y0, y1, y2] h → body (fun zs h' => I zs h' ∧ μ zs h' < μ [y0, y1, y2] h) y0 y1 y2 g h
theorem lp3_of {x0 x1 x2 : Value} {h0 : Heap} {body : (List Value → Heap → Prop) → Value → Value → Value → (Nat → Value) → Heap → Prop} (I : Value → Value → Value → Heap → Prop) (μ : Value → Value → Value → Heap → Nat) (h : I x0 x1 x2 h0)
    (round : ∀ y0 y1 y2 : Value, ∀ (g : Nat → Value) (h : Heap), I y0 y1 y2 h → ∀ k : List Value → Heap → Prop, (∀ z0 z1 z2 h', I z0 z1 z2 h' → μ z0 z1 z2 h' < μ y0 y1 y2 h → k [z0, z1, z2] h') → body k y0 y1 y2 g h) : lp3 x0 x1 x2 h0 body :=
  ⟨fun l h => match l with | [x0, x1, x2] => I x0 x1 x2 h | _ => False, fun l h => match l with | [x0, x1, x2] => μ x0 x1 x2 h | _ => 0, h, fun y0 y1 y2 g h hI => round y0 y1 y2 g h hI _ fun _ _ _ _ hI' hm => ⟨hI', hm⟩⟩
def lp4 (x0 x1 x2 x3 : Value) (h0 : Heap) (body : (List Value → Heap → Prop) → Value → Value → Value → Value → (Nat → Value) → Heap → Prop) : Prop :=
  ∃ (I : List Value → Heap → Prop) (μ : List Value → Heap → Nat), I [x0, x1, x2, x3] h0 ∧ ∀ y0 y1 y2 y3 : Value, ∀ (g : Nat → Value) (h : Heap), I [y0, y1, y2, y3] h → body (fun zs h' => I zs h' ∧ μ zs h' < μ [y0, y1, y2, y3] h) y0 y1 y2 y3 g h
theorem lp4_of {x0 x1 x2 x3 : Value} {h0 : Heap} {body : (List Value → Heap → Prop) → Value → Value → Value → Value → (Nat → Value) → Heap → Prop} (I : Value → Value → Value → Value → Heap → Prop) (μ : Value → Value → Value → Value → Heap → Nat) (h : I x0 x1 x2 x3 h0)
    (round : ∀ y0 y1 y2 y3 : Value, ∀ (g : Nat → Value) (h : Heap), I y0 y1 y2 y3 h → ∀ k : List Value → Heap → Prop, (∀ z0 z1 z2 z3 h', I z0 z1 z2 z3 h' → μ z0 z1 z2 z3 h' < μ y0 y1 y2 y3 h → k [z0, z1, z2, z3] h') → body k y0 y1 y2 y3 g h) : lp4 x0 x1 x2 x3 h0 body :=
  ⟨fun l h => match l with | [x0, x1, x2, x3] => I x0 x1 x2 x3 h | _ => False, fun l h => match l with | [x0, x1, x2, x3] => μ x0 x1 x2 x3 h | _ => 0, h, fun y0 y1 y2 y3 g h hI => round y0 y1 y2 y3 g h hI _ fun _ _ _ _ _ hI' hm => ⟨hI', hm⟩⟩
def lp5 (x0 x1 x2 x3 x4 : Value) (h0 : Heap) (body : (List Value → Heap → Prop) → Value → Value → Value → Value → Value → (Nat → Value) → Heap → Prop) : Prop :=
  ∃ (I : List Value → Heap → Prop) (μ : List Value → Heap → Nat), I [x0, x1, x2, x3, x4] h0 ∧ ∀ y0 y1 y2 y3 y4 : Value, ∀ (g : Nat → Value) (h : Heap), I [y0, y1, y2, y3, y4] h → body (fun zs h' => I zs h' ∧ μ zs h' < μ [y0, y1, y2, y3, y4] h) y0 y1 y2 y3 y4 g h
theorem lp5_of {x0 x1 x2 x3 x4 : Value} {h0 : Heap} {body : (List Value → Heap → Prop) → Value → Value → Value → Value → Value → (Nat → Value) → Heap → Prop} (I : Value → Value → Value → Value → Value → Heap → Prop) (μ : Value → Value → Value → Value → Value → Heap → Nat) (h : I x0 x1 x2 x3 x4 h0)
    (round : ∀ y0 y1 y2 y3 y4 : Value, ∀ (g : Nat → Value) (h : Heap), I y0 y1 y2 y3 y4 h → ∀ k : List Value → Heap → Prop, (∀ z0 z1 z2 z3 z4 h', I z0 z1 z2 z3 z4 h' → μ z0 z1 z2 z3 z4 h' < μ y0 y1 y2 y3 y4 h → k [z0, z1, z2, z3, z4] h') → body k y0 y1 y2 y3 y4 g h) : lp5 x0 x1 x2 x3 x4 h0 body :=
  ⟨fun l h => match l with | [x0, x1, x2, x3, x4] => I x0 x1 x2 x3 x4 h | _ => False, fun l h => match l with | [x0, x1, x2, x3, x4] => μ x0 x1 x2 x3 x4 h | _ => 0, h, fun y0 y1 y2 y3 y4 g h hI => round y0 y1 y2 y3 y4 g h hI _ fun _ _ _ _ _ _ hI' hm => ⟨hI', hm⟩⟩
def lp6 (x0 x1 x2 x3 x4 x5 : Value) (h0 : Heap) (body : (List Value → Heap → Prop) → Value → Value → Value → Value → Value → Value → (Nat → Value) → Heap → Prop) : Prop :=
  ∃ (I : List Value → Heap → Prop) (μ : List Value → Heap → Nat), I [x0, x1, x2, x3, x4, x5] h0 ∧ ∀ y0 y1 y2 y3 y4 y5 : Value, ∀ (g : Nat → Value) (h : Heap), I [y0, y1, y2, y3, y4, y5] h → body (fun zs h' => I zs h' ∧ μ zs h' < μ [y0, y1, y2, y3, y4, y5] h) y0 y1 y2 y3 y4 y5 g h
theorem lp6_of {x0 x1 x2 x3 x4 x5 : Value} {h0 : Heap} {body : (List Value → Heap → Prop) → Value → Value → Value → Value → Value → Value → (Nat → Value) → Heap → Prop} (I : Value → Value → Value → Value → Value → Value → Heap → Prop) (μ : Value → Value → Value → Value → Value → Value → Heap → Nat) (h : I x0 x1 x2 x3 x4 x5 h0)
    (round : ∀ y0 y1 y2 y3 y4 y5 : Value, ∀ (g : Nat → Value) (h : Heap), I y0 y1 y2 y3 y4 y5 h → ∀ k : List Value → Heap → Prop, (∀ z0 z1 z2 z3 z4 z5 h', I z0 z1 z2 z3 z4 z5 h' → μ z0 z1 z2 z3 z4 z5 h' < μ y0 y1 y2 y3 y4 y5 h → k [z0, z1, z2, z3, z4, z5] h') → body k y0 y1 y2 y3 y4 y5 g h) : lp6 x0 x1 x2 x3 x4 x5 h0 body :=
  ⟨fun l h => match l with | [x0, x1, x2, x3, x4, x5] => I x0 x1 x2 x3 x4 x5 h | _ => False, fun l h => match l with | [x0, x1, x2, x3, x4, x5] => μ x0 x1 x2 x3 x4 x5 h | _ => 0, h, fun y0 y1 y2 y3 y4 y5 g h hI => round y0 y1 y2 y3 y4 y5 g h hI _ fun _ _ _ _ _ _ _ hI' hm => ⟨hI', hm⟩⟩
def lp7 (x0 x1 x2 x3 x4 x5 x6 : Value) (h0 : Heap) (body : (List Value → Heap → Prop) → Value → Value → Value → Value → Value → Value → Value → (Nat → Value) → Heap → Prop) : Prop :=
  ∃ (I : List Value → Heap → Prop) (μ : List Value → Heap → Nat), I [x0, x1, x2, x3, x4, x5, x6] h0 ∧ ∀ y0 y1 y2 y3 y4 y5 y6 : Value, ∀ (g : Nat → Value) (h : Heap), I [y0, y1, y2, y3, y4, y5, y6] h → body (fun zs h' => I zs h' ∧ μ zs h' < μ [y0, y1, y2, y3, y4, y5, y6] h) y0 y1 y2 y3 y4 y5 y6 g h
theorem lp7_of {x0 x1 x2 x3 x4 x5 x6 : Value} {h0 : Heap} {body : (List Value → Heap → Prop) → Value → Value → Value → Value → Value → Value → Value → (Nat → Value) → Heap → Prop} (I : Value → Value → Value → Value → Value → Value → Value → Heap → Prop) (μ : Value → Value → Value → Value → Value → Value → Value → Heap → Nat) (h : I x0 x1 x2 x3 x4 x5 x6 h0)
    (round : ∀ y0 y1 y2 y3 y4 y5 y6 : Value, ∀ (g : Nat → Value) (h : Heap), I y0 y1 y2 y3 y4 y5 y6 h → ∀ k : List Value → Heap → Prop, (∀ z0 z1 z2 z3 z4 z5 z6 h', I z0 z1 z2 z3 z4 z5 z6 h' → μ z0 z1 z2 z3 z4 z5 z6 h' < μ y0 y1 y2 y3 y4 y5 y6 h → k [z0, z1, z2, z3, z4, z5, z6] h') → body k y0 y1 y2 y3 y4 y5 y6 g h) : lp7 x0 x1 x2 x3 x4 x5 x6 h0 body :=
  ⟨fun l h => match l with | [x0, x1, x2, x3, x4, x5, x6] => I x0 x1 x2 x3 x4 x5 x6 h | _ => False, fun l h => match l with | [x0, x1, x2, x3, x4, x5, x6] => μ x0 x1 x2 x3 x4 x5 x6 h | _ => 0, h, fun y0 y1 y2 y3 y4 y5 y6 g h hI => round y0 y1 y2 y3 y4 y5 y6 g h hI _ fun _ _ _ _ _ _ _ _ hI' hm => ⟨hI', hm⟩⟩
def lp8 (x0 x1 x2 x3 x4 x5 x6 x7 : Value) (h0 : Heap) (body : (List Value → Heap → Prop) → Value → Value → Value → Value → Value → Value → Value → Value → (Nat → Value) → Heap → Prop) : Prop :=
  ∃ (I : List Value → Heap → Prop) (μ : List Value → Heap → Nat), I [x0, x1, x2, x3, x4, x5, x6, x7] h0 ∧ ∀ y0 y1 y2 y3 y4 y5 y6 y7 : Value, ∀ (g : Nat → Value) (h : Heap), I [y0, y1, y2, y3, y4, y5, y6, y7] h → body (fun zs h' => I zs h' ∧ μ zs h' < μ [y0, y1, y2, y3, y4, y5, y6, y7] h) y0 y1 y2 y3 y4 y5 y6 y7 g h
theorem lp8_of {x0 x1 x2 x3 x4 x5 x6 x7 : Value} {h0 : Heap} {body : (List Value → Heap → Prop) → Value → Value → Value → Value → Value → Value → Value → Value → (Nat → Value) → Heap → Prop} (I : Value → Value → Value → Value → Value → Value → Value → Value → Heap → Prop) (μ : Value → Value → Value → Value → Value → Value → Value → Value → Heap → Nat) (h : I x0 x1 x2 x3 x4 x5 x6 x7 h0)
    (round : ∀ y0 y1 y2 y3 y4 y5 y6 y7 : Value, ∀ (g : Nat → Value) (h : Heap), I y0 y1 y2 y3 y4 y5 y6 y7 h → ∀ k : List Value → Heap → Prop, (∀ z0 z1 z2 z3 z4 z5 z6 z7 h', I z0 z1 z2 z3 z4 z5 z6 z7 h' → μ z0 z1 z2 z3 z4 z5 z6 z7 h' < μ y0 y1 y2 y3 y4 y5 y6 y7 h → k [z0, z1, z2, z3, z4, z5, z6, z7] h') → body k y0 y1 y2 y3 y4 y5 y6 y7 g h) : lp8 x0 x1 x2 x3 x4 x5 x6 x7 h0 body :=
  ⟨fun l h => match l with | [x0, x1, x2, x3, x4, x5, x6, x7] => I x0 x1 x2 x3 x4 x5 x6 x7 h | _ => False, fun l h => match l with | [x0, x1, x2, x3, x4, x5, x6, x7] => μ x0 x1 x2 x3 x4 x5 x6 x7 h | _ => 0, h, fun y0 y1 y2 y3 y4 y5 y6 y7 g h hI => round y0 y1 y2 y3 y4 y5 y6 y7 g h hI _ fun _ _ _ _ _ _ _ _ _ hI' hm => ⟨hI', hm⟩⟩
def lp9 (x0 x1 x2 x3 x4 x5 x6 x7 x8 : Value) (h0 : Heap) (body : (List Value → Heap → Prop) → Value → Value → Value → Value → Value → Value → Value → Value → Value → (Nat → Value) → Heap → Prop) : Prop :=
  ∃ (I : List Value → Heap → Prop) (μ : List Value → Heap → Nat), I [x0, x1, x2, x3, x4, x5, x6, x7, x8] h0 ∧ ∀ y0 y1 y2 y3 y4 y5 y6 y7 y8 : Value, ∀ (g : Nat → Value) (h : Heap), I [y0, y1, y2, y3, y4, y5, y6, y7, y8] h → body (fun zs h' => I zs h' ∧ μ zs h' < μ [y0, y1, y2, y3, y4, y5, y6, y7, y8] h) y0 y1 y2 y3 y4 y5 y6 y7 y8 g h
theorem lp9_of {x0 x1 x2 x3 x4 x5 x6 x7 x8 : Value} {h0 : Heap} {body : (List Value → Heap → Prop) → Value → Value → Value → Value → Value → Value → Value → Value → Value → (Nat → Value) → Heap → Prop} (I : Value → Value → Value → Value → Value → Value → Value → Value → Value → Heap → Prop) (μ : Value → Value → Value → Value → Value → Value → Value → Value → Value → Heap → Nat) (h : I x0 x1 x2 x3 x4 x5 x6 x7 x8 h0)
    (round : ∀ y0 y1 y2 y3 y4 y5 y6 y7 y8 : Value, ∀ (g : Nat → Value) (h : Heap), I y0 y1 y2 y3 y4 y5 y6 y7 y8 h → ∀ k : List Value → Heap → Prop, (∀ z0 z1 z2 z3 z4 z5 z6 z7 z8 h', I z0 z1 z2 z3 z4 z5 z6 z7 z8 h' → μ z0 z1 z2 z3 z4 z5 z6 z7 z8 h' < μ y0 y1 y2 y3 y4 y5 y6 y7 y8 h → k [z0, z1, z2, z3, z4, z5, z6, z7, z8] h') → body k y0 y1 y2 y3 y4 y5 y6 y7 y8 g h) : lp9 x0 x1 x2 x3 x4 x5 x6 x7 x8 h0 body :=
  ⟨fun l h => match l with | [x0, x1, x2, x3, x4, x5, x6, x7, x8] => I x0 x1 x2 x3 x4 x5 x6 x7 x8 h | _ => False, fun l h => match l with | [x0, x1, x2, x3, x4, x5, x6, x7, x8] => μ x0 x1 x2 x3 x4 x5 x6 x7 x8 h | _ => 0, h, fun y0 y1 y2 y3 y4 y5 y6 y7 y8 g h hI => round y0 y1 y2 y3 y4 y5 y6 y7 y8 g h hI _ fun _ _ _ _ _ _ _ _ _ _ hI' hm => ⟨hI', hm⟩⟩
def lp10 (x0 x1 x2 x3 x4 x5 x6 x7 x8 x9 : Value) (h0 : Heap) (body : (List Value → Heap → Prop) → Value → Value → Value → Value → Value → Value → Value → Value → Value → Value → (Nat → Value) → Heap → Prop) : Prop :=
  ∃ (I : List Value → Heap → Prop) (μ : List Value → Heap → Nat), I [x0, x1, x2, x3, x4, x5, x6, x7, x8, x9] h0 ∧ ∀ y0 y1 y2 y3 y4 y5 y6 y7 y8 y9 : Value, ∀ (g : Nat → Value) (h : Heap), I [y0, y1, y2, y3, y4, y5, y6, y7, y8, y9] h → body (fun zs h' => I zs h' ∧ μ zs h' < μ [y0, y1, y2, y3, y4, y5, y6, y7, y8, y9] h) y0 y1 y2 y3 y4 y5 y6 y7 y8 y9 g h
theorem lp10_of {x0 x1 x2 x3 x4 x5 x6 x7 x8 x9 : Value} {h0 : Heap} {body : (List Value → Heap → Prop) → Value → Value → Value → Value → Value → Value → Value → Value → Value → Value → (Nat → Value) → Heap → Prop} (I : Value → Value → Value → Value → Value → Value → Value → Value → Value → Value → Heap → Prop) (μ : Value → Value → Value → Value → Value → Value → Value → Value → Value → Value → Heap → Nat) (h : I x0 x1 x2 x3 x4 x5 x6 x7 x8 x9 h0)
    (round : ∀ y0 y1 y2 y3 y4 y5 y6 y7 y8 y9 : Value, ∀ (g : Nat → Value) (h : Heap), I y0 y1 y2 y3 y4 y5 y6 y7 y8 y9 h → ∀ k : List Value → Heap → Prop, (∀ z0 z1 z2 z3 z4 z5 z6 z7 z8 z9 h', I z0 z1 z2 z3 z4 z5 z6 z7 z8 z9 h' → μ z0 z1 z2 z3 z4 z5 z6 z7 z8 z9 h' < μ y0 y1 y2 y3 y4 y5 y6 y7 y8 y9 h → k [z0, z1, z2, z3, z4, z5, z6, z7, z8, z9] h') → body k y0 y1 y2 y3 y4 y5 y6 y7 y8 y9 g h) : lp10 x0 x1 x2 x3 x4 x5 x6 x7 x8 x9 h0 body :=
  ⟨fun l h => match l with | [x0, x1, x2, x3, x4, x5, x6, x7, x8, x9] => I x0 x1 x2 x3 x4 x5 x6 x7 x8 x9 h | _ => False, fun l h => match l with | [x0, x1, x2, x3, x4, x5, x6, x7, x8, x9] => μ x0 x1 x2 x3 x4 x5 x6 x7 x8 x9 h | _ => 0, h, fun y0 y1 y2 y3 y4 y5 y6 y7 y8 y9 g h hI => round y0 y1 y2 y3 y4 y5 y6 y7 y8 y9 g h hI _ fun _ _ _ _ _ _ _ _ _ _ _ hI' hm => ⟨hI', hm⟩⟩
def lp11 (x0 x1 x2 x3 x4 x5 x6 x7 x8 x9 x10 : Value) (h0 : Heap) (body : (List Value → Heap → Prop) → Value → Value → Value → Value → Value → Value → Value → Value → Value → Value → Value → (Nat → Value) → Heap → Prop) : Prop :=
  ∃ (I : List Value → Heap → Prop) (μ : List Value → Heap → Nat), I [x0, x1, x2, x3, x4, x5, x6, x7, x8, x9, x10] h0 ∧ ∀ y0 y1 y2 y3 y4 y5 y6 y7 y8 y9 y10 : Value, ∀ (g : Nat → Value) (h : Heap), I [y0, y1, y2, y3, y4, y5, y6, y7, y8, y9, y10] h → body (fun zs h' => I zs h' ∧ μ zs h' < μ [y0, y1, y2, y3, y4, y5, y6, y7, y8, y9, y10] h) y0 y1 y2 y3 y4 y5 y6 y7 y8 y9 y10 g h
theorem lp11_of {x0 x1 x2 x3 x4 x5 x6 x7 x8 x9 x10 : Value} {h0 : Heap} {body : (List Value → Heap → Prop) → Value → Value → Value → Value → Value → Value → Value → Value → Value → Value → Value → (Nat → Value) → Heap → Prop} (I : Value → Value → Value → Value → Value → Value → Value → Value → Value → Value → Value → Heap → Prop) (μ : Value → Value → Value → Value → Value → Value → Value → Value → Value → Value → Value → Heap → Nat) (h : I x0 x1 x2 x3 x4 x5 x6 x7 x8 x9 x10 h0)
    (round : ∀ y0 y1 y2 y3 y4 y5 y6 y7 y8 y9 y10 : Value, ∀ (g : Nat → Value) (h : Heap), I y0 y1 y2 y3 y4 y5 y6 y7 y8 y9 y10 h → ∀ k : List Value → Heap → Prop, (∀ z0 z1 z2 z3 z4 z5 z6 z7 z8 z9 z10 h', I z0 z1 z2 z3 z4 z5 z6 z7 z8 z9 z10 h' → μ z0 z1 z2 z3 z4 z5 z6 z7 z8 z9 z10 h' < μ y0 y1 y2 y3 y4 y5 y6 y7 y8 y9 y10 h → k [z0, z1, z2, z3, z4, z5, z6, z7, z8, z9, z10] h') → body k y0 y1 y2 y3 y4 y5 y6 y7 y8 y9 y10 g h) : lp11 x0 x1 x2 x3 x4 x5 x6 x7 x8 x9 x10 h0 body :=
  ⟨fun l h => match l with | [x0, x1, x2, x3, x4, x5, x6, x7, x8, x9, x10] => I x0 x1 x2 x3 x4 x5 x6 x7 x8 x9 x10 h | _ => False, fun l h => match l with | [x0, x1, x2, x3, x4, x5, x6, x7, x8, x9, x10] => μ x0 x1 x2 x3 x4 x5 x6 x7 x8 x9 x10 h | _ => 0, h, fun y0 y1 y2 y3 y4 y5 y6 y7 y8 y9 y10 g h hI => round y0 y1 y2 y3 y4 y5 y6 y7 y8 y9 y10 g h hI _ fun _ _ _ _ _ _ _ _ _ _ _ _ hI' hm => ⟨hI', hm⟩⟩
def lp12 (x0 x1 x2 x3 x4 x5 x6 x7 x8 x9 x10 x11 : Value) (h0 : Heap) (body : (List Value → Heap → Prop) → Value → Value → Value → Value → Value → Value → Value → Value → Value → Value → Value → Value → (Nat → Value) → Heap → Prop) : Prop :=
  ∃ (I : List Value → Heap → Prop) (μ : List Value → Heap → Nat), I [x0, x1, x2, x3, x4, x5, x6, x7, x8, x9, x10, x11] h0 ∧ ∀ y0 y1 y2 y3 y4 y5 y6 y7 y8 y9 y10 y11 : Value, ∀ (g : Nat → Value) (h : Heap), I [y0, y1, y2, y3, y4, y5, y6, y7, y8, y9, y10, y11] h → body (fun zs h' => I zs h' ∧ μ zs h' < μ [y0, y1, y2, y3, y4, y5, y6, y7, y8, y9, y10, y11] h) y0 y1 y2 y3 y4 y5 y6 y7 y8 y9 y10 y11 g h
theorem lp12_of {x0 x1 x2 x3 x4 x5 x6 x7 x8 x9 x10 x11 : Value} {h0 : Heap} {body : (List Value → Heap → Prop) → Value → Value → Value → Value → Value → Value → Value → Value → Value → Value → Value → Value → (Nat → Value) → Heap → Prop} (I : Value → Value → Value → Value → Value → Value → Value → Value → Value → Value → Value → Value → Heap → Prop) (μ : Value → Value → Value → Value → Value → Value → Value → Value → Value → Value → Value → Value → Heap → Nat) (h : I x0 x1 x2 x3 x4 x5 x6 x7 x8 x9 x10 x11 h0)
    (round : ∀ y0 y1 y2 y3 y4 y5 y6 y7 y8 y9 y10 y11 : Value, ∀ (g : Nat → Value) (h : Heap), I y0 y1 y2 y3 y4 y5 y6 y7 y8 y9 y10 y11 h → ∀ k : List Value → Heap → Prop, (∀ z0 z1 z2 z3 z4 z5 z6 z7 z8 z9 z10 z11 h', I z0 z1 z2 z3 z4 z5 z6 z7 z8 z9 z10 z11 h' → μ z0 z1 z2 z3 z4 z5 z6 z7 z8 z9 z10 z11 h' < μ y0 y1 y2 y3 y4 y5 y6 y7 y8 y9 y10 y11 h → k [z0, z1, z2, z3, z4, z5, z6, z7, z8, z9, z10, z11] h') → body k y0 y1 y2 y3 y4 y5 y6 y7 y8 y9 y10 y11 g h) : lp12 x0 x1 x2 x3 x4 x5 x6 x7 x8 x9 x10 x11 h0 body :=
  ⟨fun l h => match l with | [x0, x1, x2, x3, x4, x5, x6, x7, x8, x9, x10, x11] => I x0 x1 x2 x3 x4 x5 x6 x7 x8 x9 x10 x11 h | _ => False, fun l h => match l with | [x0, x1, x2, x3, x4, x5, x6, x7, x8, x9, x10, x11] => μ x0 x1 x2 x3 x4 x5 x6 x7 x8 x9 x10 x11 h | _ => 0, h, fun y0 y1 y2 y3 y4 y5 y6 y7 y8 y9 y10 y11 g h hI => round y0 y1 y2 y3 y4 y5 y6 y7 y8 y9 y10 y11 g h hI _ fun _ _ _ _ _ _ _ _ _ _ _ _ _ hI' hm => ⟨hI', hm⟩⟩
end Go.Proofs.Ytihbhklcnbdijaa
