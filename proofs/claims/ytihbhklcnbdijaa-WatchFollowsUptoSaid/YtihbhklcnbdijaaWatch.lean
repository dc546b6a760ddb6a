/- The walk: watch, as far as 'what is known follows' asks it: an invariant on memory. -/
import Derived.Test.YtihbhklcnbdijaaTextW
import Derived.Test.YtihbhklcnbdijaaSort
set_option linter.unusedSimpArgs false
set_option linter.unusedVariables false
namespace Go.Proofs.Ytihbhklcnbdijaa
open Go

theorem jn_intro {α : Type} {K : α} {A : α → Prop} (h : ∀ K', K' = K → A K') : jn K A := h K rfl
theorem isB_tt : isB (.bool true) true = true := rfl
theorem isB_tf : isB (.bool true) false = false := rfl
theorem isB_ft : isB (.bool false) true = false := rfl
theorem isB_ff : isB (.bool false) false = true := rfl
/-! ### Truth -/
def tru (m : List Bool) (l : Int) : Bool := if l < 0 then (decide (l < -(m.length : Int)) || !(m.getD (-l - 1).toNat false)) else (decide (0 < l) && (decide (l ≤ m.length) && m.getD (l - 1).toNat false))
theorem tru_neg {m : List Bool} {l : Int} (h : l ≠ 0) : tru m (-l) = !tru m l := by
  unfold tru
  by_cases h0 : l < 0
  · have h1 : ¬ (-l < 0) := by omega
    have h2 : 0 < -l := by omega
    simp only [h0, h1, h2, if_true, if_false, decide_true, Bool.true_and]
    by_cases h3 : l < -(m.length : Int)
    · have : ¬ (-l ≤ (m.length : Int)) := by omega
      simp [h3, this]
    · have : -l ≤ (m.length : Int) := by omega
      simp [h3, this]
  · have h1 : -l < 0 := by omega
    have h2 : 0 < l := by omega
    simp only [h0, h1, h2, if_true, if_false, decide_true, Bool.true_and, Int.neg_neg]
    by_cases h3 : l ≤ (m.length : Int)
    · have : ¬ (-l < -(m.length : Int)) := by omega
      simp [h3, this]
    · have : -l < -(m.length : Int) := by omega
      simp [h3, this]
def Bls (h : Heap) (v : Value) (m : List Bool) : Prop := Src h 1 v (m.map .bool)
theorem Bls.keep {h h' : Heap} {v : Value} {m : List Bool} (hx : Bls h v m) (f : Fr2 h h' []) : Bls h' v m := Src.keep hx f
theorem Bls.form {h : Heap} {v : Value} {xs : List Bool} (hx : Bls h v xs) : ∃ a c, v = .slice a xs.length c ∧ ∀ i (hi : i < xs.length), ∃ b o, a = some ⟨b, o, none⟩ ∧ hcell h ⟨b, o + i, none⟩ = some (.bool xs[i]) := by
  obtain ⟨a, c, e, hg⟩ := Src.form hx
  refine ⟨a, c, by rw [e]; simp, fun i hi => ?_⟩
  obtain ⟨b, o, e1, e2⟩ := hg i (by simpa using hi)
  exact ⟨b, o, e1, by rw [e2]; simp⟩
theorem k_truth {m : List Bool} {mv : Value} {l : Int} {h : Heap} (hm : Bls h mv m) (hml : m.length < 4611686018427387904) {Q : Value → Heap → Prop} (h1 : -9223372036854775808 ≤ l) (h2 : l ≤ 9223372036854775807) :
    callF P F.depotlaw07_truth [mv, I l] h Q = Q (.bool (tru m l)) h := by
  refine callF_eq en_depotlaw07_truth (ok_depotlaw07_truth ?_) Q
  obtain ⟨a, c, rfl, hg⟩ := hm.form
  unfold t_depotlaw07_truth tru
  simp only [rd_lss, br_bool, ln_Sl_bool, rd_neg, rd_gtr]
  rw [wrap_in (n := -(m.length : Int)) (by omega) (by omega)]
  refine ⟨fun h0 => ?_, fun h0 => ?_⟩
  · have h0' : l < 0 := by simpa using h0
    simp only [isB_bool, h0', if_true]
    by_cases h3 : l < -(m.length : Int)
    · simp [h3, gq_false, ex_bool]
    · simp [h3, gq_true, ex_bool]
      simp only [rd_neg, rd_sub]
      rw [wrap_in (n := -l) (by omega) (by omega), wrap_in (by omega) (by omega)]
      have e : -l - 1 = (((-l - 1).toNat : Nat) : Int) := by omega
      have hi : (-l - 1).toNat < m.length := by omega
      obtain ⟨b, o, rfl, hc⟩ := hg _ hi
      rw [e, ix_Sl_bool hi, Nat.mul_one, rd_ld hc sc_bool, rd_not]
      have e2 : (-l).toNat - 1 = (-l - 1).toNat := by omega
      rw [e2, List.getElem?_eq_getElem hi]; rfl
  · have h0' : ¬ l < 0 := by simpa using h0
    simp only [isB_bool, h0', if_false]
    by_cases h4 : 0 < l
    · by_cases h3 : l ≤ (m.length : Int)
      · simp [h4, h3, gq_true, ex_bool, ln_Sl_bool, rd_leq, isB, rd_sub]
        rw [wrap_in (by omega) (by omega)]
        have e : l - 1 = (((l - 1).toNat : Nat) : Int) := by omega
        have hi : (l - 1).toNat < m.length := by omega
        obtain ⟨b, o, rfl, hc⟩ := hg _ hi
        rw [e, ix_Sl_bool hi, Nat.mul_one, rd_ld hc sc_bool]
        have e2 : l.toNat - 1 = (l - 1).toNat := by omega
        rw [e2, List.getElem?_eq_getElem hi]; rfl
      · simp [h4, h3, gq_true, gq_false, ex_bool, ln_Sl_bool, rd_leq, isB]
    · simp [h4, gq_true, gq_false, ex_bool, ln_Sl_bool, rd_leq, isB]
def hld (m : List Bool) (c : List Int) : Bool := c.any (tru m)
theorem k_holds {m : List Bool} {mv v : Value} {xs : List Int} {h : Heap} (hm : Bls h mv m) (hml : m.length < 4611686018427387904) (hx : Ints h v xs) (hn : xs.length < 4611686018427387904) (h1 : ∀ l ∈ xs, -9223372036854775808 ≤ l ∧ l ≤ 9223372036854775807) {Q : Value → Heap → Prop} :
    callF P F.depotlaw07_holds [mv, v] h Q = Q (.bool (hld m xs)) h := by
  refine callF_eq en_depotlaw07_holds (ok_depotlaw07_holds ?_) Q
  unfold t_depotlaw07_holds
  obtain ⟨a, c, rfl, hg⟩ := hx.form
  refine lp1_of (fun z h' => h' = h ∧ ∃ i : Nat, z = I i ∧ i ≤ xs.length ∧ (xs.take i).any (tru m) = false) (fun z _ => xs.length - iv z) ⟨rfl, 0, rfl, Nat.zero_le _, by simp⟩ ?_
  rintro z g h' ⟨rfl, i, rfl, hi, hall⟩ k hk
  simp only [ln_Sl_int, rd_lss, br_bool]
  refine ⟨fun hlt => ?_, fun hge => ?_⟩
  · have hlt' : i < xs.length := by simpa using hlt
    rw [ints_el hg hlt', k_truth hm hml (h1 _ (List.getElem_mem _)).1 (h1 _ (List.getElem_mem _)).2]
    simp only [br_bool, rd_add]
    refine ⟨fun hf => ⟨?_, trivial⟩, fun hf => ?_⟩
    · congr 1
      symm
      exact List.any_eq_true.2 ⟨_, List.getElem_mem _, hf⟩
    · rw [wrap_succ (by omega)]
      refine hk _ _ ⟨rfl, i + 1, rfl, hlt', ?_⟩ ?_
      · rw [List.take_succ_eq_append_getElem hlt', List.any_append, hall]; simp [hf]
      · simp only [iv, Int.toNat_natCast]; omega
  · have : i = xs.length := by have : ¬ (i < xs.length) := by simpa using hge
                               omega
    subst this
    rw [List.take_length] at hall
    exact ⟨by rw [show hld m xs = false from hall], trivial⟩

/-! ### The invariant -/
inductive Kind where
  | none | watch | vals | trail | starts | lists | list (i : Nat) | loose | held | lits
abbrev J (n : Int) : Value := .int .i8 n
abbrev pt (b : Nat) : Value := .pointer (some ⟨b, 0, none⟩)
/-- What is fixed of a Watch: the model, the variables, its blocks. -/
structure WC where
  m : List Bool
  n : Nat
  w : Nat
  vb : Nat
  lb : Nat
/-- What turns. -/
structure WS where
  vals : List Int
  trail : List Int
  starts : List Nat
  head : Nat
  lens : List Nat
  loose : List Nat
  rest : Bool
  clash : Bool
  K : Nat
  ex : Nat
  lo : Value
def inR (n : Nat) (l : Int) : Prop := -(n : Int) ≤ l ∧ l ≤ n
/-- A slice of our own whose memory is of one kind. -/
def OwnK (h : Heap) (κ : Nat → Kind) (k : Kind) (v : Value) (xs : List Value) : Prop := ∃ bs, Own h 1 v bs xs ∧ ∀ b ∈ bs, κ b = k
def HeldOk (C : WC) (h : Heap) (κ : Nat → Kind) (x : Nat) : Prop :=
  ∃ lv ls a b, row h x = some [lv, I a, I b] ∧ OwnK h κ .lits lv (ls.map I) ∧ (∀ l ∈ ls, l ≠ 0 ∧ inR C.n l) ∧ hld C.m ls = true ∧ inR C.n a ∧ inR C.n b ∧ ls.length < 2199023255551
def zeros (vals : List Int) : Nat := vals.count 0
def valOf (vals : List Int) (l : Int) : Int := if l < 0 then -(vals.getD (-l).toNat 0) else vals.getD l.toNat 0
/-- What is known is true. -/
structure VS (C : WC) (S : WS) : Prop where
  len : S.vals.length = C.n + 1
  three : ∀ x ∈ S.vals, x = -1 ∨ x = 0 ∨ x = 1
  pos : ∀ v : Nat, 0 < v → S.vals[v]? = some 1 → tru C.m v = true
  neg : ∀ v : Nat, 0 < v → S.vals[v]? = some (-1) → tru C.m (-(v : Int)) = true
  tr : ∀ l ∈ S.trail, l ≠ 0 ∧ inR C.n l ∧ tru C.m l = true
  tz : S.trail.length + zeros S.vals ≤ C.n + 1
  hd : S.head ≤ S.trail.length
  st : S.starts.Pairwise (· < ·)
  sl : ∀ s ∈ S.starts, s < S.trail.length
  n20 : C.n ≤ 1048576
  kb : S.K < 1099511627775
  sum : S.lens.sum + 2 * S.loose.length + S.ex ≤ 2 * S.K
  ll : S.lens.length = 2 * C.n
structure WI (C : WC) (κ : Nat → Kind) (hole : Option Nat) (S : WS) (h : Heap) : Prop where
  kw : κ C.w = .watch
  kv : κ C.vb = .vals
  kl : κ C.lb = .lists
  fresh : ∀ b, h.size ≤ b → κ b = .none
  cells : ∃ tv sv lo, row h C.w = some [.slice (some ⟨C.vb, 0, none⟩) (C.n + 1) (C.n + 1), tv, sv, I S.head, .slice (some ⟨C.lb, 0, none⟩) (2 * C.n) (2 * C.n), lo, .bool S.rest, .bool S.clash] ∧
    OwnK h κ .trail tv (S.trail.map I) ∧ OwnK h κ .starts sv (S.starts.map fun s => I (s : Nat)) ∧ OwnK h κ .loose lo (S.loose.map pt) ∧ (∀ x ∈ S.loose, κ x = .held) ∧ lo = S.lo
  vals : row h C.vb = some (S.vals.map J)
  lists : ∃ lvs : List Value, row h C.lb = some lvs ∧ lvs.length = 2 * C.n ∧ ∀ i, i < 2 * C.n → some i ≠ hole → ∃ (v : Value) (hs : List Nat), lvs[i]? = some v ∧ OwnK h κ (.list i) v (hs.map pt) ∧ (∀ x ∈ hs, κ x = .held) ∧ S.lens[i]? = some hs.length
  helds : ∀ x, κ x = .held → HeldOk C h κ x
theorem OwnK.frame {h h' : Heap} {κ κ' : Nat → Kind} {k : Kind} {v : Value} {xs : List Value} {F : List Nat} (ho : OwnK h κ k v xs) (f : Fr2 h h' F) (hF : ∀ b ∈ F, κ b ≠ k) (hκ : ∀ b, b < h.size → κ' b = κ b) : OwnK h' κ' k v xs := by
  obtain ⟨bs, h1, h2⟩ := ho
  exact ⟨bs, h1.frame f fun b hb hb' => hF b hb' (h2 b hb), fun b hb => by rw [hκ b (h1.lt b hb)]; exact h2 b hb⟩
theorem HeldOk.frame {C : WC} {h h' : Heap} {κ κ' : Nat → Kind} {x : Nat} {F : List Nat} (ho : HeldOk C h κ x) (f : Fr2 h h' F) (hx : x ∉ F) (hF : ∀ b ∈ F, κ b ≠ .lits) (hκ : ∀ b, b < h.size → κ' b = κ b) : HeldOk C h' κ' x := by
  obtain ⟨lv, ls, a, b, h1, h2, h3⟩ := ho
  exact ⟨lv, ls, a, b, f.row h1 hx, h2.frame f hF hκ, h3⟩
/-- Nothing old is turned. -/
theorem WI.keep {C : WC} {κ : Nat → Kind} {o : Option Nat} {S : WS} {h h' : Heap} (W : WI C κ o S h) (f : Fr2 h h' []) : WI C κ o S h' := by
  obtain ⟨tv, sv, lo, h1, h2, h3, h4, h5, hlo⟩ := W.cells
  obtain ⟨lvs, l1, l2, l3⟩ := W.lists
  refine ⟨W.kw, W.kv, W.kl, fun b hb => W.fresh b (Nat.le_trans f.size hb), ⟨tv, sv, lo, f.row h1 (by simp), h2.frame f (by simp) fun _ _ => rfl, h3.frame f (by simp) fun _ _ => rfl, h4.frame f (by simp) fun _ _ => rfl, h5, hlo⟩, f.row W.vals (by simp), ⟨lvs, f.row l1 (by simp), l2, fun i hi hh => ?_⟩, fun x hx => (W.helds x hx).frame f (by simp) (by simp) fun _ _ => rfl⟩
  obtain ⟨v, hs, a1, a2, a3, a4⟩ := l3 i hi hh
  exact ⟨v, hs, a1, a2.frame f (by simp) fun _ _ => rfl, a3, a4⟩
theorem WI.lt {C : WC} {κ : Nat → Kind} {o : Option Nat} {S : WS} {h : Heap} (W : WI C κ o S h) {b : Nat} (hb : κ b ≠ .none) : b < h.size := by
  rcases Nat.lt_or_ge b h.size with h' | h'
  · exact h'
  · exact absurd (W.fresh b h') hb
theorem valOf_in {C : WC} {S : WS} (V : VS C S) (l : Int) : valOf S.vals l = -1 ∨ valOf S.vals l = 0 ∨ valOf S.vals l = 1 := by
  have key : ∀ j, S.vals.getD j 0 = -1 ∨ S.vals.getD j 0 = 0 ∨ S.vals.getD j 0 = 1 := fun j => by
    rw [List.getD_eq_getElem?_getD]
    cases h : S.vals[j]? with
    | none => simp
    | some x => exact V.three x (List.mem_of_getElem? h)
  unfold valOf
  split
  · have := key (-l).toNat; omega
  · exact key _
theorem j8 {n : Int} (h : n = -1 ∨ n = 0 ∨ n = 1) : IntKind.i8.wrap (-n) = -n := by rcases h with rfl | rfl | rfl <;> decide
theorem k_of {C : WC} {κ : Nat → Kind} {o : Option Nat} {S : WS} {h : Heap} (W : WI C κ o S h) (V : VS C S) {l : Int} (hl : inR C.n l) {Q : Value → Heap → Prop} :
    callF P F.watch_Watch_of [pt C.w, I l] h Q = Q (J (valOf S.vals l)) h := by
  refine callF_eq en_watch_Watch_of (ok_watch_Watch_of ?_) Q
  obtain ⟨tv, sv, lo, h1, _⟩ := W.cells
  have hlen := V.len
  have hn := V.n20
  unfold inR at hl
  have hv : ∀ j, j < C.n + 1 → (S.vals.map J)[j]? = some (J (S.vals.getD j 0)) := fun j hj => by
    rw [List.getElem?_map, List.getElem?_eq_getElem (by omega), List.getD_eq_getElem?_getD, List.getElem?_eq_getElem (by omega)]; rfl
  unfold t_watch_Watch_of
  simp only [rd_lss, br_bool, okNil_ptr, fa_watch_Watch_value, Nat.zero_add, rd_ldr h1 sc_Sl_int8, List.getElem?_cons_zero, optK_some, rd_neg]
  rw [wrap_in (by omega) (by omega)]
  refine ⟨fun h0 => ⟨trivial, ?_⟩, fun h0 => ⟨trivial, ?_⟩⟩
  · have h0' : l < 0 := by simpa using h0
    have e : -l = (((-l).toNat : Nat) : Int) := by omega
    rw [e, ix_Sl_int8 (by omega), Nat.zero_add, Nat.mul_one, rd_ldr W.vals sc_int8, hv _ (by omega), optK_some]
    have h3 := valOf_in V l
    simp only [valOf, h0', if_true] at h3 ⊢
    simp only [rd_neg]
    rw [j8 (by omega)]
    exact ⟨by simp, trivial⟩
  · have h0' : ¬ l < 0 := by simpa using h0
    obtain ⟨j, rfl⟩ : ∃ j : Nat, l = j := ⟨l.toNat, by omega⟩
    rw [ix_Sl_int8 (by omega), Nat.zero_add, Nat.mul_one, rd_ldr W.vals sc_int8, hv _ (by omega), optK_some]
    simp only [valOf, h0', if_false, Int.toNat_natCast]
    exact ⟨trivial, trivial⟩
/-- More blocks have kinds than had. -/
def Ext (h : Heap) (κ κ' : Nat → Kind) : Prop := ∀ b, b < h.size → κ' b = κ b
theorem Ext.refl (h : Heap) (κ : Nat → Kind) : Ext h κ κ := fun _ _ => rfl
theorem Ext.trans {h h' : Heap} {κ κ' κ'' : Nat → Kind} (a : Ext h κ κ') (b : Ext h' κ' κ'') (hs : h.size ≤ h'.size) : Ext h κ κ'' := fun x hx => (b x (by omega)).trans (a x hx)
/-- Memory that the invariant doesn't speak of. -/
def Fre (o : Option Nat) (k : Kind) : Prop := k = .none ∨ ∃ i, o = some i ∧ k = .list i
/-- From one memory to the next. -/
structure Nx (o : Option Nat) (h : Heap) (κ : Nat → Kind) (h' : Heap) (κ' : Nat → Kind) : Prop where
  ext : Ext h κ κ'
  size : h.size ≤ h'.size
  keep : ∀ b, b < h.size → Fre o (κ b) → h'[b]? = h[b]?
theorem Nx.refl (o : Option Nat) (h : Heap) (κ : Nat → Kind) : Nx o h κ h κ := ⟨Ext.refl _ _, Nat.le_refl _, fun _ _ _ => rfl⟩
theorem Nx.trans {o : Option Nat} {h h' h'' : Heap} {κ κ' κ'' : Nat → Kind} (a : Nx o h κ h' κ') (b : Nx o h' κ' h'' κ'') : Nx o h κ h'' κ'' :=
  ⟨a.ext.trans b.ext a.size, Nat.le_trans a.size b.size, fun x hx hF => (b.keep x (Nat.lt_of_lt_of_le hx a.size) (by rw [a.ext x hx]; exact hF)).trans (a.keep x hx hF)⟩
theorem Nx.of {o : Option Nat} {h h' : Heap} {κ κ' : Nat → Kind} {F : List Nat} (f : Fr2 h h' F) (e : Ext h κ κ') (hF : ∀ b ∈ F, ¬ Fre o (κ b)) : Nx o h κ h' κ' :=
  ⟨e, f.size, fun b hb hf => f.old b hb fun h => hF b h hf⟩
theorem Nx.new {o : Option Nat} {h h' : Heap} {κ : Nat → Kind} (f : Fr2 h h' []) : Nx o h κ h' κ := Nx.of f (Ext.refl _ _) (by simp)
theorem Nx.none {o : Option Nat} {h h' : Heap} {κ κ' : Nat → Kind} (a : Nx o h κ h' κ') : Nx .none h κ h' κ' := ⟨a.ext, a.size, fun b hb hf => a.keep b hb (hf.elim .inl (fun ⟨_, e, _⟩ => nomatch e))⟩
/-- One more behind a slice of our own, of a kind. -/
theorem appK {h : Heap} {κ : Nat → Kind} {kd : Kind} {ty by_ t e : Nat} {z s x : Value} {xs : List Value} {k : Value → Heap → Prop} (hs : SlT P t e) (ht : TI P e [z] 1 by_) (ho : OwnK h κ kd s xs) (hx : sc1 x = true) (hb : by_ ≤ 64) (hn : xs.length < 2199023255551)
    (hfr : ∀ b, h.size ≤ b → κ b = .none)
    (hk : ∀ v' h' κ' F, OwnK h' κ' kd v' (xs ++ [x]) → Fr2 h h' F → (∀ b ∈ F, κ b = kd ∧ b < h.size) → Ext h κ κ' → (∀ b, h'.size ≤ b → κ' b = .none) → (∀ b, h.size ≤ b → κ' b = kd ∨ κ' b = .none) → k v' h') :
    sem P (Instr.buildSlice t 1 #[(0, x)]) h fun v1 h1 => sem P (Builtin.append_ #[t, t] ty #[s, v1]) h1 k := by
  obtain ⟨bs, o1, o2⟩ := ho
  refine app1 hs ht o1 hx hb hn fun v' h' bs' h3 h4 h5 => ?_
  refine hk v' h' (fun b => if h.size ≤ b ∧ b ∈ bs' then kd else κ b) bs ⟨bs', h3, fun b hb => ?_⟩ h4 (fun b hb => ⟨o2 b hb, o1.lt b hb⟩) (fun b hb => if_neg (by omega)) (fun b hb => ?_) (fun b hb => ?_)
  · show (if h.size ≤ b ∧ b ∈ bs' then kd else κ b) = kd
    rcases h5 b hb with h | h
    · split
      · rfl
      · exact o2 b h
    · rw [if_pos ⟨h, hb⟩]
  · show (if h.size ≤ b ∧ b ∈ bs' then kd else κ b) = .none
    rw [if_neg (fun hh => by have := h3.lt b hh.2; omega)]
    exact hfr b (by have := h4.size; omega)
  · show (if h.size ≤ b ∧ b ∈ bs' then kd else κ b) = kd ∨ (if h.size ≤ b ∧ b ∈ bs' then kd else κ b) = .none
    split
    · exact .inl rfl
    · exact .inr (hfr b hb)
def setV (vals : List Int) (l : Int) : List Int := if l < 0 then vals.set (-l).toNat (-1) else vals.set l.toNat 1
theorem zeros_set {vals : List Int} {j : Nat} {x : Int} (hj : j < vals.length) (h0 : vals[j] = 0) (hx : x ≠ 0) : zeros (vals.set j x) + 1 = zeros vals := by
  have h1 : 0 < vals.count 0 := List.count_pos_iff.2 (h0 ▸ List.getElem_mem hj)
  unfold zeros
  rw [List.count_set hj, h0]
  simp [hx]
  omega
theorem VS.put {C : WC} {S : WS} (V : VS C S) {l : Int} (h0 : l ≠ 0) (hl : inR C.n l) (hv : valOf S.vals l = 0) (ht : tru C.m l = true) : VS C { S with vals := setV S.vals l, trail := S.trail ++ [l] } ∧ zeros (setV S.vals l) + 1 = zeros S.vals := by
  have hlen := V.len
  unfold inR at hl
  have key : ∃ (j : Nat) (x : Int), setV S.vals l = S.vals.set j x ∧ 0 < j ∧ j < S.vals.length ∧ S.vals[j]? = some 0 ∧ ((x = 1 ∧ l = j) ∨ (x = -1 ∧ l = -j)) := by
    unfold setV
    unfold valOf at hv
    by_cases hn : l < 0
    · simp only [hn, if_true] at hv ⊢
      refine ⟨_, _, rfl, by omega, by omega, ?_, .inr ⟨rfl, by omega⟩⟩
      rw [List.getElem?_eq_getElem (by omega)]
      rw [List.getD_eq_getElem?_getD, List.getElem?_eq_getElem (by omega), Option.getD_some] at hv
      congr 1; omega
    · simp only [hn, if_false] at hv ⊢
      refine ⟨_, _, rfl, by omega, by omega, ?_, .inl ⟨rfl, by omega⟩⟩
      rw [List.getElem?_eq_getElem (by omega)]
      rw [List.getD_eq_getElem?_getD, List.getElem?_eq_getElem (by omega), Option.getD_some] at hv
      congr 1
  obtain ⟨j, x, e, hj0, hj, hz, hx⟩ := key
  have hz' : S.vals[j] = 0 := by rw [List.getElem?_eq_getElem hj] at hz; injection hz
  have hzs := zeros_set (x := x) hj hz' (by omega)
  refine ⟨?_, by rw [e]; exact hzs⟩
  constructor
  · show (setV S.vals l).length = _; rw [e, List.length_set]; exact hlen
  · intro y hy
    replace hy : y ∈ S.vals.set j x := by rw [← e]; exact hy
    rcases List.mem_or_eq_of_mem_set hy with h | h
    · exact V.three y h
    · omega
  · intro v hv0 hv1
    replace hv1 : (S.vals.set j x)[v]? = some 1 := by rw [← e]; exact hv1
    rw [List.getElem?_set] at hv1
    split at hv1
    · rename_i ej
      subst ej
      injection hv1 with hv1
      rcases hx with ⟨_, h⟩ | ⟨h, _⟩
      · rw [← h]; exact ht
      · omega
    · exact V.pos v hv0 hv1
  · intro v hv0 hv1
    replace hv1 : (S.vals.set j x)[v]? = some (-1) := by rw [← e]; exact hv1
    rw [List.getElem?_set] at hv1
    split at hv1
    · rename_i ej
      subst ej
      injection hv1 with hv1
      rcases hx with ⟨h, _⟩ | ⟨_, h⟩
      · omega
      · rw [← h]; exact ht
    · exact V.neg v hv0 hv1
  · intro y hy
    rcases List.mem_append.1 hy with h | h
    · exact V.tr y h
    · simp at h; subst h; exact ⟨h0, hl, ht⟩
  · show (S.trail ++ [l]).length + zeros (setV S.vals l) ≤ _
    have := V.tz
    rw [e]; simp; omega
  · show S.head ≤ (S.trail ++ [l]).length
    have := V.hd
    simp; omega
  · exact V.st
  · intro y hy
    have := V.sl y hy
    show y < (S.trail ++ [l]).length
    simp; omega
  · exact V.n20
  · exact V.kb
  · exact V.sum
  · exact V.ll
theorem map_setV {C : WC} {S : WS} {l : Int} : (S.vals.map J).set (if l < 0 then (-l).toNat else l.toNat) (if l < 0 then J (-1) else J 1) = (setV S.vals l).map J := by
  unfold setV
  split <;> simp [List.map_set]
/-- All but what is of these kinds is as it was. -/
theorem WI.trailUpd {C : WC} {κ κ' : Nat → Kind} {o : Option Nat} {S S' : WS} {h h' : Heap} {F : List Nat} {tv' : Value} (W : WI C κ o S h) (f : Fr2 h h' F) (hF : ∀ b ∈ F, κ b = .watch ∨ κ b = .vals ∨ κ b = .trail) (hκ : Ext h κ κ')
    (hfr : ∀ b, h'.size ≤ b → κ' b = .none) (hnew : ∀ b, h.size ≤ b → κ' b ≠ .held)
    (hc : ∀ tv sv lo, row h C.w = some [.slice (some ⟨C.vb, 0, none⟩) (C.n + 1) (C.n + 1), tv, sv, I S.head, .slice (some ⟨C.lb, 0, none⟩) (2 * C.n) (2 * C.n), lo, .bool S.rest, .bool S.clash] →
      row h' C.w = some [.slice (some ⟨C.vb, 0, none⟩) (C.n + 1) (C.n + 1), tv', sv, I S'.head, .slice (some ⟨C.lb, 0, none⟩) (2 * C.n) (2 * C.n), lo, .bool S'.rest, .bool S'.clash])
    (ht : OwnK h' κ' .trail tv' (S'.trail.map I)) (hv : row h' C.vb = some (S'.vals.map J)) (e1 : S'.starts = S.starts) (e2 : S'.loose = S.loose) (e3 : S'.lens = S.lens) (e4 : S'.lo = S.lo) : WI C κ' o S' h' := by
  obtain ⟨tv, sv, lo, h1, h2, h3, h4, h5, hlo⟩ := W.cells
  obtain ⟨lvs, l1, l2, l3⟩ := W.lists
  have ne : ∀ k : Kind, k ≠ .watch → k ≠ .vals → k ≠ .trail → ∀ b ∈ F, κ b ≠ k := fun k a b c x hx e => by
    rcases hF x hx with h | h | h <;> rw [h] at e <;> first | exact a e.symm | exact b e.symm | exact c e.symm
  refine ⟨?_, ?_, ?_, hfr, ⟨tv', sv, lo, hc tv sv lo h1, ht, ?_, ?_, ?_, by rw [e4]; exact hlo⟩, hv, ⟨lvs, f.row l1 (fun hb => ne .lists nofun nofun nofun _ hb W.kl), l2, fun i hi hh => ?_⟩, fun x hx => ?_⟩
  · rw [hκ _ (W.lt (by rw [W.kw]; nofun))]; exact W.kw
  · rw [hκ _ (W.lt (by rw [W.kv]; nofun))]; exact W.kv
  · rw [hκ _ (W.lt (by rw [W.kl]; nofun))]; exact W.kl
  · rw [e1]; exact h3.frame f (ne .starts nofun nofun nofun) hκ
  · rw [e2]; exact h4.frame f (ne .loose nofun nofun nofun) hκ
  · rw [e2]; intro x hx; rw [hκ x (W.lt (by rw [h5 x hx]; nofun))]; exact h5 x hx
  · obtain ⟨v, hs, a1, a2, a3, a4⟩ := l3 i hi hh
    rw [e3]
    exact ⟨v, hs, a1, a2.frame f (ne (.list i) nofun nofun nofun) hκ, fun x hx => by rw [hκ x (W.lt (by rw [a3 x hx]; nofun))]; exact a3 x hx, a4⟩
  · rcases Nat.lt_or_ge x h.size with hx' | hx'
    · have hx2 : κ x = .held := by rw [← hκ x hx']; exact hx
      exact (W.helds x hx2).frame f (fun hb => ne .held nofun nofun nofun _ hb hx2) (ne .lits nofun nofun nofun) hκ
    · exact absurd hx (hnew x hx')
theorem k_put' {C : WC} {κ : Nat → Kind} {o : Option Nat} {S : WS} {h : Heap} (st : List Nat) (W : WI C κ o S h) (V : VS C { S with starts := st }) {l : Int} (h0 : l ≠ 0) (hl : inR C.n l) (hv : valOf S.vals l = 0) (ht : tru C.m l = true) {Q : Value → Heap → Prop}
    (hk : ∀ h' κ', WI C κ' o { S with vals := setV S.vals l, trail := S.trail ++ [l] } h' → Nx o h κ h' κ' → Q (.tuple #[]) h') : callF P F.watch_Watch_put [pt C.w, I l] h Q := by
  refine ok_watch_Watch_put ?_
  obtain ⟨tv, sv, lo, h1, h2, h3, h4, h5, hlo⟩ := W.cells
  have hlen : S.vals.length = C.n + 1 := V.len
  have hn := V.n20
  have htz : S.trail.length + zeros S.vals ≤ C.n + 1 := V.tz
  have hl' := hl
  unfold inR at hl'
  unfold t_watch_Watch_put
  simp only [okNil_ptr, fa_watch_Watch_trail, Nat.zero_add, rd_ldr h1 sc_Sl_int, List.getElem?_cons_zero, List.getElem?_cons_succ, optK_some, true_and]
  refine appK sl_Sl_int ti_int h2 rfl (by omega) (by simp; omega) W.fresh fun tv' ha κ' F hT f hF hκ hfr hnew => ?_
  have hwF : C.w ∉ F := fun hb => by have := (hF _ hb).1; rw [W.kw] at this; cases this
  have r1 := f.row h1 hwF
  refine sem_st1 ti_Sl_int r1 (by simp) ?_ ?_
  · obtain ⟨bs, o1, _⟩ := hT
    rcases o1 with ⟨rfl, _⟩ | ⟨_, _, _, _, rfl, _⟩ <;> rfl
  generalize hb' : hput ha C.w _ = hb
  have r2 : row hb C.w = some [.slice (some ⟨C.vb, 0, none⟩) (C.n + 1) (C.n + 1), tv', sv, I S.head, .slice (some ⟨C.lb, 0, none⟩) (2 * C.n) (2 * C.n), lo, .bool S.rest, .bool S.clash] := by
    rw [← hb', hput_same r1]; rfl
  have f2 : Fr2 h hb (C.w :: F) := by
    rw [← hb']; exact (f.mono fun b hb => List.mem_cons_of_mem _ hb).put (.inl (by simp))
  have hvF : C.vb ∉ C.w :: F := fun hb => by
    rcases List.mem_cons.1 hb with h | h
    · have := W.kv; rw [h, W.kw] at this; cases this
    · have := (hF _ h).1; rw [W.kv] at this; cases this
  have rv := f2.row W.vals hvF
  have hT2 : OwnK hb κ' .trail tv' ((S.trail ++ [l]).map I) := by
    rw [← hb', List.map_append]
    refine hT.frame (κ' := κ') (F := [C.w]) ((Fr2.refl ha [C.w]).put (.inl (by simp))) (fun b hb => ?_) fun _ _ => rfl
    simp at hb; subst hb
    rw [hκ _ (W.lt (by rw [W.kw]; nofun)), W.kw]; nofun
  have fin : ∀ (j : Nat) (x : Value), j < S.vals.length → (S.vals.map J).set j x = (setV S.vals l).map J → Q (.tuple #[]) (hput hb C.vb ((S.vals.map J).set j x)) := by
    intro j x hj he
    rw [he]
    have hne : C.w ≠ C.vb := fun e => by have := W.kv; rw [← e, W.kw] at this; cases this
    have f3 : Fr2 hb (hput hb C.vb ((setV S.vals l).map J)) [C.vb] := (Fr2.refl _ _).put (.inl (by simp))
    have hFk : ∀ b ∈ C.vb :: C.w :: F, κ b = .watch ∨ κ b = .vals ∨ κ b = .trail := by
      intro b hb
      rcases List.mem_cons.1 hb with rfl | hb
      · exact .inr (.inl W.kv)
      · rcases List.mem_cons.1 hb with rfl | hb
        · exact .inl W.kw
        · exact .inr (.inr (hF b hb).1)
    have f4 : Fr2 h (hput hb C.vb ((setV S.vals l).map J)) (C.vb :: C.w :: F) := (f2.mono fun b hb => List.mem_cons_of_mem _ hb).put (.inl (by simp))
    refine hk _ κ' (W.trailUpd (F := C.vb :: C.w :: F) (tv' := tv') f4 hFk hκ ?_ ?_ ?_ ?_ ?_ rfl rfl rfl rfl) (Nx.of f4 hκ fun b hb hfre => ?_)
    rotate_right
    · rcases hFk b hb with e | e | e <;> rw [e] at hfre <;> rcases hfre with hfre | ⟨_, _, hfre⟩ <;> cases hfre
    · intro b hb; rw [size_hput, ← hb', size_hput] at hb; exact hfr b hb
    · intro b hb e; rcases hnew b hb with h | h <;> rw [h] at e <;> cases e
    · intro tv0 sv0 lo0 e0
      rw [h1] at e0
      injection e0 with e0
      injection e0 with _ e0
      injection e0 with _ e0
      injection e0 with e4 e0
      injection e0 with _ e0
      injection e0 with _ e0
      injection e0 with e5 e0
      subst e4 e5
      exact f3.row r2 (by simpa using hne)
    · exact hT2.frame f3 (fun b hb => by simp at hb; subst hb; rw [hκ _ (W.lt (by rw [W.kv]; nofun)), W.kv]; nofun) fun _ _ => rfl
    · exact hput_same rv
  simp only [rd_lss, br_bool, okNil_ptr, fa_watch_Watch_value, Nat.zero_add, rd_ldr r2 sc_Sl_int8, List.getElem?_cons_zero, optK_some, rd_neg, true_and]
  rw [wrap_in (by omega) (by omega)]
  refine ⟨fun hneg => ?_, fun hneg => ?_⟩
  · have hneg' : l < 0 := by simpa using hneg
    have e : -l = (((-l).toNat : Nat) : Int) := by omega
    rw [e, ix_Sl_int8 (by omega), Nat.zero_add, Nat.mul_one]
    refine sem_st1 ti_int8 rv (by simp; omega) rfl (fin _ _ (by omega) ?_)
    have := map_setV (C := C) (S := S) (l := l)
    simpa only [hneg', if_true] using this
  · have hneg' : ¬ l < 0 := by simpa using hneg
    obtain ⟨j, rfl⟩ : ∃ j : Nat, l = j := ⟨l.toNat, by omega⟩
    rw [ix_Sl_int8 (by omega), Nat.zero_add, Nat.mul_one]
    refine sem_st1 ti_int8 rv (by simp; omega) rfl (fin _ _ (by omega) ?_)
    have := map_setV (C := C) (S := S) (l := (j : Int))
    simpa only [hneg', if_false, Int.toNat_natCast] using this
theorem k_put {C : WC} {κ : Nat → Kind} {o : Option Nat} {S : WS} {h : Heap} (W : WI C κ o S h) (V : VS C S) {l : Int} (h0 : l ≠ 0) (hl : inR C.n l) (hv : valOf S.vals l = 0) (ht : tru C.m l = true) {Q : Value → Heap → Prop}
    (hk : ∀ h' κ', WI C κ' o { S with vals := setV S.vals l, trail := S.trail ++ [l] } h' → Nx o h κ h' κ' → Q (.tuple #[]) h') : callF P F.watch_Watch_put [pt C.w, I l] h Q := k_put' S.starts W V h0 hl hv ht hk
/-- One list is another now. -/
theorem WI.listUpd {C : WC} {κ κ' : Nat → Kind} {o o' : Option Nat} {S : WS} {h h' : Heap} {F : List Nat} {v' : Value} {hs : List Nat} {i e : Nat} (W : WI C κ o S h) (V : VS C S) (f : Fr2 h h' F) (hF : ∀ b ∈ F, κ b = .lists ∨ κ b = .list i) (hκ : Ext h κ κ')
    (hfr : ∀ b, h'.size ≤ b → κ' b = .none) (hnew : ∀ b, h.size ≤ b → κ' b ≠ .held) (hi : i < 2 * C.n) (ho : ∀ j, some j ≠ o' → some j ≠ o ∨ j = i)
    (hl : ∀ lvs, row h C.lb = some lvs → row h' C.lb = some (lvs.set i v')) (hv : OwnK h' κ' (.list i) v' (hs.map pt)) (hh : ∀ x ∈ hs, κ x = .held) : WI C κ' o' { S with lens := S.lens.set i hs.length, ex := e } h' := by
  obtain ⟨tv, sv, lo, h1, h2, h3, h4, h5, hlo⟩ := W.cells
  obtain ⟨lvs, l1, l2, l3⟩ := W.lists
  have ne : ∀ k : Kind, k ≠ .lists → k ≠ .list i → ∀ b ∈ F, κ b ≠ k := fun k a b x hx e => by
    rcases hF x hx with h | h <;> rw [h] at e <;> first | exact a e.symm | exact b e.symm
  have hheld : ∀ x, κ x = .held → κ' x = .held := fun x hx => by rw [hκ x (W.lt (by rw [hx]; nofun))]; exact hx
  refine ⟨?_, ?_, ?_, hfr, ⟨tv, sv, lo, f.row h1 (fun hb => ne .watch nofun nofun _ hb W.kw), h2.frame f (ne .trail nofun nofun) hκ, h3.frame f (ne .starts nofun nofun) hκ, h4.frame f (ne .loose nofun nofun) hκ, fun x hx => hheld x (h5 x hx), hlo⟩, f.row W.vals (fun hb => ne .vals nofun nofun _ hb W.kv), ⟨lvs.set i v', hl lvs l1, by simpa using l2, fun j hj hho => ?_⟩, fun x hx => ?_⟩
  · rw [hκ _ (W.lt (by rw [W.kw]; nofun))]; exact W.kw
  · rw [hκ _ (W.lt (by rw [W.kv]; nofun))]; exact W.kv
  · rw [hκ _ (W.lt (by rw [W.kl]; nofun))]; exact W.kl
  · by_cases hji : j = i
    · subst hji
      refine ⟨v', hs, ?_, hv, fun x hx => hheld x (hh x hx), ?_⟩
      · rw [List.getElem?_set, if_pos rfl, if_pos (by omega)]
      · show (S.lens.set j hs.length)[j]? = _
        rw [List.getElem?_set, if_pos rfl, if_pos (by rw [V.ll]; exact hj)]
    · obtain ⟨v, hs2, a1, a2, a3, a4⟩ := l3 j hj ((ho j hho).resolve_right hji)
      refine ⟨v, hs2, ?_, a2.frame f (ne (.list j) nofun (fun e => hji (by injection e))) hκ, fun x hx => hheld x (a3 x hx), ?_⟩
      · rw [List.getElem?_set, if_neg (fun e => hji e.symm)]; exact a1
      · show (S.lens.set i hs.length)[j]? = _
        rw [List.getElem?_set, if_neg (fun e => hji e.symm)]; exact a4
  · rcases Nat.lt_or_ge x h.size with hx' | hx'
    · have hx2 : κ x = .held := by rw [← hκ x hx']; exact hx
      exact (W.helds x hx2).frame f (fun hb => ne .held nofun nofun _ hb hx2) (ne .lits nofun nofun) hκ
    · exact absurd hx (hnew x hx')
/-- The two eyes of one clause are others now. -/
theorem WI.heldUpd {C : WC} {κ : Nat → Kind} {o : Option Nat} {S : WS} {h : Heap} {x : Nat} {lv : Value} {ls : List Int} {a b a' b' : Int} (W : WI C κ o S h) (hx : κ x = .held) (hr : row h x = some [lv, I a, I b]) (hlv : OwnK h κ .lits lv (ls.map I)) (h1 : ∀ l ∈ ls, l ≠ 0 ∧ inR C.n l) (h2 : hld C.m ls = true) (h3 : inR C.n a') (h4 : inR C.n b') (h5 : ls.length < 2199023255551) :
    WI C κ o S (hput h x [lv, I a', I b']) := by
  have f : Fr2 h (hput h x [lv, I a', I b']) [x] := (Fr2.refl _ _).put (.inl (by simp))
  have ne : ∀ k : Kind, k ≠ .held → ∀ b ∈ [x], κ b ≠ k := fun k a y hy e => by
    simp at hy; subst hy; rw [hx] at e; exact a e.symm
  have nx : ∀ y, κ y ≠ .held → y ∉ [x] := fun y hy hb => by simp at hb; subst hb; exact hy hx
  obtain ⟨tv, sv, lo, c1, c2, c3, c4, c5, clo⟩ := W.cells
  obtain ⟨lvs, l1, l2, l3⟩ := W.lists
  refine ⟨W.kw, W.kv, W.kl, fun b hb => W.fresh b (by rw [size_hput] at hb; exact hb), ⟨tv, sv, lo, f.row c1 (nx _ (by rw [W.kw]; nofun)), c2.frame f (ne _ nofun) fun _ _ => rfl, c3.frame f (ne _ nofun) fun _ _ => rfl, c4.frame f (ne _ nofun) fun _ _ => rfl, c5, clo⟩, f.row W.vals (nx _ (by rw [W.kv]; nofun)), ⟨lvs, f.row l1 (nx _ (by rw [W.kl]; nofun)), l2, fun i hi hh => ?_⟩, fun y hy => ?_⟩
  · obtain ⟨v, hs, a1, a2, a3, a4⟩ := l3 i hi hh
    exact ⟨v, hs, a1, a2.frame f (ne _ nofun) fun _ _ => rfl, a3, a4⟩
  · by_cases e : y = x
    · subst e
      exact ⟨lv, ls, a', b', hput_same hr, hlv.frame f (ne _ nofun) (fun _ _ => rfl), h1, h2, h3, h4, h5⟩
    · exact (W.helds y hy).frame f (by simpa using e) (ne _ nofun) fun _ _ => rfl
/-- .. with something shown in between. -/
theorem appZ {h : Heap} {κ : Nat → Kind} {kd : Kind} {ty by_ t e : Nat} {z s x : Value} {xs : List Value} {k : Value → Heap → Prop} (Z : Heap → Prop → Prop) (hs : SlT P t e) (ht : TI P e [z] 1 by_) (ho : OwnK h κ kd s xs) (hx : sc1 x = true) (hb : by_ ≤ 64) (hn : xs.length < 2199023255551)
    (hfr : ∀ b, h.size ≤ b → κ b = .none) (hZ : ∀ h1 X, Fr2 h h1 [] → X → Z h1 X)
    (hk : ∀ v' h' κ' F, OwnK h' κ' kd v' (xs ++ [x]) → Fr2 h h' F → (∀ b ∈ F, κ b = kd ∧ b < h.size) → Ext h κ κ' → (∀ b, h'.size ≤ b → κ' b = .none) → (∀ b, h.size ≤ b → κ' b = kd ∨ κ' b = .none) → k v' h') :
    sem P (Instr.buildSlice t 1 #[(0, x)]) h fun v1 h1 => Z h1 (sem P (Builtin.append_ #[t, t] ty #[s, v1]) h1 k) := by
  have key := appK (ty := ty) hs ht ho hx hb hn hfr hk
  intro w hw
  obtain ⟨v, w', hr, hsm, hh⟩ := key w hw
  refine ⟨v, w', hr, hsm, hZ _ _ ?_ hh⟩
  -- a literal is a new block
  have bs := sem_bs1 (P := P) (h := h) (k := fun _ h1 => Fr2 h h1 []) hs ht (x := x) (by rw [sc1_cells hx]; rfl) (by omega) (by omega) ((Fr2.refl h []).new)
  obtain ⟨v2, w2, hr2, _, hh2⟩ := bs w hw
  rw [hr] at hr2
  injection hr2 with _ e2
  rw [e2]; exact hh2
theorem ixOf_lt {n : Nat} {l : Int} (h0 : l ≠ 0) (hl : inR n l) (hn : n ≤ 1048576) : ∃ i : Nat, ixOf l = i ∧ i < 2 * n := by
  unfold inR at hl
  have hf : formed l = true := formed_iff.2 ⟨h0, by omega, by omega⟩
  refine ⟨(ixOf l).toNat, ?_, ?_⟩ <;> simp only [ixOf, hf, if_true] <;> split <;> omega
theorem sum_set {l : List Nat} {i x : Nat} : ∀ {y : Nat}, l[i]? = some y → (l.set i x).sum + y = l.sum + x := by
  induction l generalizing i with
  | nil => intro y h; simp at h
  | cons a l ih =>
    intro y h
    cases i with
    | zero => simp at h; subst h; simp; omega
    | succ i =>
      have := ih (i := i) (by simpa using h)
      simp; omega
theorem mem_le_sum {l : List Nat} {i y : Nat} (h : l[i]? = some y) : y ≤ l.sum := by
  have := sum_set (x := 0) h; omega
/-- A clause goes behind one list. -/
theorem push {C : WC} {κ : Nat → Kind} {o : Option Nat} {S : WS} {h : Heap} {l : Int} {x : Nat} (W : WI C κ o S h) (V : VS C S) (h0 : l ≠ 0) (hl : inR C.n l) (hho : ∀ i : Nat, ixOf l = i → some i ≠ o) (hx : κ x = .held) (hex : 1 ≤ S.ex) {k : Heap → Prop}
    (hk : ∀ h' κ' L, WI C κ' o { S with lens := L, ex := S.ex - 1 } h' → VS C { S with lens := L, ex := S.ex - 1 } → Nx o h κ h' κ' → k h') :
    qa P (Instr.fieldAt T.watch_Watch (pt C.w) 4) fun t50 => ca P F.lits_Index [I l] fun t53 => (qa P (Instr.fieldAt T.watch_Watch (pt C.w) 4) fun t56 => ca P F.lits_Index [I l] fun t59 =>
      ∃ S37 : Heap → Prop, S37 h ∧ (qs P S37 (Instr.loadAt T.Sl_Sl_P_watch_held t50) fun t51 => ∃ S39 : Heap → Prop, S39 h ∧ (qs P S39 (Instr.loadAt T.Sl_Sl_P_watch_held t56) fun t57 =>
      qa P (Instr.indexAt T.Sl_Sl_P_watch_held t57 t59) fun t60 => ∃ S42 : Heap → Prop, S42 h ∧ (qs P S42 (Instr.loadAt T.Sl_P_watch_held t60) fun t61 =>
      sem P (Instr.buildSlice T.Sl_P_watch_held 1 #[(0, pt x)]) h fun t63 h8 => S42 h8 ∧ S39 h8 ∧ S37 h8 ∧ (sem P (Builtin.append_ #[T.Sl_P_watch_held, T.Sl_P_watch_held] T.Sl_P_watch_held #[t61, t63]) h8 fun t64 h9 => S39 h9 ∧ S37 h9 ∧ (
      qa P (Instr.indexAt T.Sl_Sl_P_watch_held t51 t53) fun t65 => sem P (Instr.storeAt T.Sl_P_watch_held t65 t64) h9 fun _ h10 => k h10)))))) := by
  obtain ⟨tv, sv, lo, h1, _⟩ := W.cells
  obtain ⟨lvs, l1, l2, l3⟩ := W.lists
  obtain ⟨i, hi, hlt⟩ := ixOf_lt h0 hl V.n20
  obtain ⟨v, hs, a1, a2, a3, a4⟩ := l3 i hlt (hho i hi)
  have hb : hs.length < 1099511627775 * 2 := by
    have := mem_le_sum a4; have := V.sum; have := V.kb; omega
  simp only [okNil_ptr, true_and, qfa_watch_Watch_lists, c_Index, Nat.zero_add, hi]
  have ld : ∀ h', row h' C.w = row h C.w → Rd P h' (Instr.loadAt T.Sl_Sl_P_watch_held (.pointer (some ⟨C.w, 4, none⟩))) (.slice (some ⟨C.lb, 0, none⟩) (2 * C.n) (2 * C.n)) := fun h' e =>
    Rd_ld sc_Sl_Sl_P_watch_held (by rw [hcell_row (e.trans h1)]; rfl)
  refine ⟨fun h' => row h' C.w = row h C.w, rfl, qs_of (fun h' e => ld h' e) ⟨fun h' => row h' C.w = row h C.w, rfl, qs_of (fun h' e => ld h' e) ?_⟩⟩
  rw [qix_Sl_Sl_P_watch_held hlt, Nat.zero_add, Nat.mul_one]
  refine ⟨fun h' => row h' C.lb = row h C.lb, rfl, qs_of (v := v) (fun h' e => Rd_ld sc_Sl_P_watch_held (by rw [hcell_row (e.trans l1), a1])) ?_⟩
  have f1 : ∀ h', Fr2 h h' [] → row h' C.w = row h C.w ∧ row h' C.lb = row h C.lb := fun h' f => ⟨by rw [h1]; exact f.row h1 (by simp), by rw [l1]; exact f.row l1 (by simp)⟩
  refine appZ (fun h1 X => row h1 C.lb = row h C.lb ∧ row h1 C.w = row h C.w ∧ row h1 C.w = row h C.w ∧ X) sl_Sl_P_watch_held ti_P_watch_held a2 rfl (by omega) (by simp; omega) W.fresh (fun h1 X f hX => ⟨(f1 h1 f).2, (f1 h1 f).1, (f1 h1 f).1, hX⟩) fun v' ha κ' F hT f hF hκ hfr hnew => ?_
  have nF : ∀ y, κ y ≠ .list i → y ∉ F := fun y hy hb => hy (hF y hb).1
  have e1 : row ha C.w = row h C.w := by rw [h1]; exact f.row h1 (nF _ (by rw [W.kw]; nofun))
  have e2 := f.row l1 (nF _ (by rw [W.kl]; nofun))
  refine ⟨e1, e1, ?_⟩
  rw [qix_Sl_Sl_P_watch_held hlt, Nat.zero_add, Nat.mul_one]
  refine sem_st1 ti_Sl_P_watch_held e2 (by omega) ?_ ?_
  · obtain ⟨bs, o1, _⟩ := hT
    rcases o1 with ⟨rfl, _⟩ | ⟨_, _, _, _, rfl, _⟩ <;> rfl
  have hse := sum_set (x := hs.length + 1) a4
  have e3 : (hs ++ [x]).length = hs.length + 1 := by simp
  have hFk : ∀ b ∈ C.lb :: F, κ b = .lists ∨ κ b = .list i := by
    intro b hb
    rcases List.mem_cons.1 hb with rfl | hb
    · exact .inl W.kl
    · exact .inr (hF b hb).1
  have f4 : Fr2 h (hput ha C.lb (lvs.set i v')) (C.lb :: F) := (f.mono fun b hb => List.mem_cons_of_mem _ hb).put (.inl (by simp))
  refine hk _ κ' (S.lens.set i (hs ++ [x]).length) (W.listUpd (F := C.lb :: F) (i := i) (v' := v') V f4 hFk hκ ?_ ?_ hlt (fun j hj => .inl hj) ?_ ?_ ?_) ?_ (Nx.of f4 hκ fun b hb hfre => ?_)
  rotate_right
  · rcases hFk b hb with e | e <;> rw [e] at hfre <;> rcases hfre with hfre | ⟨j, ej, hfre⟩ <;> try cases hfre
    exact hho i hi ej.symm
  · intro b hb; rw [size_hput] at hb; exact hfr b hb
  · intro b hb e; rcases hnew b hb with h | h <;> rw [h] at e <;> cases e
  · intro lvs' e4
    rw [l1] at e4; injection e4 with e4; subst e4
    exact hput_same e2
  · rw [List.map_append]
    refine hT.frame (F := [C.lb]) ((Fr2.refl _ _).put (.inl (by simp))) (fun b hb => ?_) fun _ _ => rfl
    simp at hb; subst hb
    rw [hκ _ (W.lt (by rw [W.kl]; nofun)), W.kl]; nofun
  · intro y hy
    rcases List.mem_append.1 hy with h | h
    · exact a3 y h
    · simp at h; subst h; exact hx
  · refine { V with sum := ?_, ll := ?_ }
    · show (S.lens.set i (hs ++ [x]).length).sum + 2 * S.loose.length + (S.ex - 1) ≤ 2 * S.K
      have := V.sum
      rw [e3]; omega
    · show (S.lens.set i (hs ++ [x]).length).length = _
      rw [List.length_set]; exact V.ll
theorem sz_int : (P.info? T.int).map (·.size) = some 1 := by kernel_rfl
theorem j8ge {n : Int} : (decide (n ≥ 0)) = decide (0 ≤ n) := rfl
theorem WI.weak {C : WC} {κ : Nat → Kind} {o : Option Nat} {S : WS} {h : Heap} (W : WI C κ o S h) {e k : Nat} : WI C κ o { S with ex := e, K := k } h := ⟨W.kw, W.kv, W.kl, W.fresh, W.cells, W.vals, W.lists, W.helds⟩
theorem k_attach {C : WC} {κ : Nat → Kind} {S : WS} {h : Heap} {x : Nat} (W : WI C κ none S h) (V : VS C S) (hx : κ x = .held) (hex : 2 ≤ S.ex) {Q : Value → Heap → Prop}
    (hk : ∀ (r : Bool) h' κ' L, WI C κ' none { S with lens := L, ex := if r then S.ex - 2 else S.ex } h' → VS C { S with lens := L, ex := if r then S.ex - 2 else S.ex } → Nx none h κ h' κ' → Q (.bool r) h') : callF P F.watch_Watch_attach [pt C.w, pt x] h Q := by
  refine ok_watch_Watch_attach ?_
  obtain ⟨lv, ls, a, b, h1, ⟨lbs, h2, h2k⟩, h3, h4, h5, h6, h7⟩ := W.helds x hx
  have hI : Ints h lv ls := h2.src
  obtain ⟨la, lc, rfl, hg⟩ := hI.form
  unfold t_watch_Watch_attach
  simp only [okNil_ptr, true_and, fa_watch_held_lits, Nat.zero_add, rd_ldr h1 sc_Sl_int, List.getElem?_cons_zero, optK_some, ln_Sl_int]
  refine lp2_of (fun l z h' => ∃ (i : Nat) (bs : List Nat), z = I i ∧ i ≤ ls.length ∧ Own h' 1 l bs (((ls.take i).filter fun y => decide (0 ≤ valOf S.vals y)).map I) ∧ Fr2 h h' [] ∧ (∀ b ∈ bs, h.size ≤ b)) (fun _ z _ => ls.length - iv z) ⟨0, [], rfl, Nat.zero_le _, own_nil1, Fr2.refl _ _, by simp⟩ ?_
  rintro l z g h' ⟨i, bs, rfl, hi, ho, hf, hb⟩ k hk'
  have W' := W.keep hf
  have hg' : ∀ i (hi : i < ls.length), ∃ b o, la = some ⟨b, o, none⟩ ∧ hcell h' ⟨b, o + i, none⟩ = some (I ls[i]) := fun i hi => by
    obtain ⟨b, o, e, hc⟩ := hg i hi
    exact ⟨b, o, e, hf.cell hc (by simp)⟩
  simp only [rd_lss, br_bool]
  refine ⟨fun hlt => ?_, fun hge => ?_⟩
  · have hlt' : i < ls.length := by simpa using hlt
    have hr := (h3 _ (List.getElem_mem hlt')).2
    simp only [jn]
    rw [ints_el hg' hlt', k_of W' V hr]
    simp only [rd_geq, br_bool, rd_add]
    rw [wrap_succ (by omega)]
    have hs := filter_take_succ (p := fun y => decide (0 ≤ valOf S.vals y)) hlt'
    refine ⟨fun hfm => ?_, fun hfm => ?_⟩
    · have hfm' : 0 ≤ valOf S.vals ls[i] := by simpa using hfm
      refine app1 sl_Sl_int ti_int ho rfl (by omega) (by have := List.length_filter_le (fun y => decide (0 ≤ valOf S.vals y)) (ls.take i); simp at this ⊢; omega) fun v' h2 bs' h3 h4 h5 => ?_
      refine hk' _ _ _ ⟨i + 1, bs', rfl, hlt', ?_, hf.trans h4 fun b h => .inr (hb b h), fun b h => ?_⟩ ?_
      · rw [hs, if_pos (by simpa using hfm'), List.map_append]; exact h3
      · rcases h5 b h with h | h
        · exact hb b h
        · have := hf.size; omega
      · simp only [iv, Int.toNat_natCast]; omega
    · have hfm' : ¬ 0 ≤ valOf S.vals ls[i] := by simpa using hfm
      refine hk' _ _ _ ⟨i + 1, bs, rfl, hlt', ?_, hf, hb⟩ ?_
      · rw [hs, if_neg (by simpa using hfm')]; simpa using ho
      · simp only [iv, Int.toNat_natCast]; omega
  have hil : i = ls.length := by have : ¬ (i < ls.length) := by simpa using hge
                                 omega
  subst hil
  rw [List.take_length] at ho
  have hmem : ∀ y ∈ ls.filter (fun y => decide (0 ≤ valOf S.vals y)), y ∈ ls := fun y hy => (List.mem_filter.1 hy).1
  generalize ls.filter (fun y => decide (0 ≤ valOf S.vals y)) = fs at ho hmem
  have hI2 : Ints h' l fs := ho.src
  obtain ⟨fa, fc, rfl, hgf⟩ := hI2.form
  simp only [ln_Sl_int, rd_lss, br_bool]
  refine ⟨fun hlt => ?_, fun hge => ?_⟩
  · exact hk false h' κ S.lens W' V (Nx.new hf)
  have hge' : 2 ≤ fs.length := by simp at hge; omega
  obtain ⟨b0, o0, rfl, c0⟩ := hgf 0 (by omega)
  obtain ⟨b1, o1, e1, c1⟩ := hgf 1 (by omega)
  injection e1 with e1
  injection e1 with e1 e2
  subst e1 e2
  have m0 := h3 _ (hmem _ (List.getElem_mem (show 0 < fs.length by omega)))
  have m1 := h3 _ (hmem _ (List.getElem_mem (show 1 < fs.length by omega)))
  have q0 := qix_Sl_int (k := fun t33 => qa P (Instr.indexAt 28 (Value.slice (some ⟨b0, o0, none⟩) fs.length fc) (Value.int .i64 1)) fun t36 => True) (b := b0) (o := o0) (c := fc) (ik := .i64) (show 0 < fs.length by omega)
  have r' := hf.row h1 (by simp)
  generalize fs[0] = x0 at m0 c0
  generalize fs[1] = x1 at m1 c1
  have z0 : (0 : Int) = ((0 : Nat) : Int) := rfl
  have z1 : (1 : Int) = ((1 : Nat) : Int) := rfl
  rw [z0, z1, qix_Sl_int (i := 0) (by omega), qix_Sl_int (i := 1) (by omega)]
  refine ⟨fun h2 => h2 = h', rfl, qs_of (v := I x0) (fun h2 e => by subst e; exact Rd_ld sc_int (by simpa using c0)) ⟨fun h2 => h2 = h', rfl, qs_of (v := I x1) (fun h2 e => by subst e; exact Rd_ld sc_int (by simpa using c1)) ?_⟩⟩
  rw [qbd_Ar2_int_0_1 rfl rfl]
  simp only [okNil_ptr, true_and, qfa_watch_held_at, Nat.zero_add]
  refine sem_st ti_Ar2_int r' rfl (by simp) (by intro v hv; simp [cells_agg] at hv; rcases hv with rfl | rfl <;> rfl) ?_
  have e3 : lput [Value.slice la ls.length lc, I a, I b] 1 (Value.agg #[I x0, I x1]).cells.toList = [Value.slice la ls.length lc, I x0, I x1] := rfl
  rw [e3]
  have W2 : WI C κ none S (hput h' x [Value.slice la ls.length lc, I x0, I x1]) := W'.heldUpd hx r' ⟨lbs, h2.frame hf (by simp), h2k⟩ h3 h4 m0.2 m1.2 h7
  have r2 : row (hput h' x [Value.slice la ls.length lc, I x0, I x1]) x = some [Value.slice la ls.length lc, I x0, I x1] := hput_same r'
  have hsz : Nx none h κ (hput h' x [Value.slice la ls.length lc, I x0, I x1]) κ := Nx.of (F := [x]) ((hf.mono (by simp)).put (.inl (by simp))) (Ext.refl _ _) fun b hb hfre => by
    simp at hb; subst hb
    rw [hx] at hfre
    rcases hfre with hfre | ⟨_, _, hfre⟩ <;> cases hfre
  generalize hput h' x [Value.slice la ls.length lc, I x0, I x1] = hh at W2 r2 hsz
  simp only [fa_watch_held_at, Nat.zero_add]
  rw [rd_lda (l := [I x0, I x1]) ag_Ar2_int (hcells_row r2 2 1 (by simp))]
  refine lp1_of (fun z h2 => ∃ (j : Nat) (κ' : Nat → Kind) (L : List Nat), z = I j ∧ j ≤ 2 ∧ WI C κ' none { S with lens := L, ex := S.ex - j } h2 ∧ VS C { S with lens := L, ex := S.ex - j } ∧ Nx none h κ h2 κ') (fun z _ => 2 - iv z) ⟨0, κ, S.lens, rfl, by omega, W2, V, hsz⟩ ?_
  rintro z g2 h2 ⟨j, κ', L, rfl, hj, Wj, Vj, hE⟩ k2 hk2
  simp only [rd_lss, br_bool]
  refine ⟨fun hlt => ?_, fun hge2 => ?_⟩
  · have hlt' : j < 2 := by simp at hlt; omega
    have hxj : ∃ y, [I x0, I x1][j]? = some (I y) ∧ y ≠ 0 ∧ inR C.n y := by
      match j, hlt' with
      | 0, _ => exact ⟨x0, rfl, m0⟩
      | 1, _ => exact ⟨x1, rfl, m1⟩
    obtain ⟨y, hy, hy0, hyr⟩ := hxj
    rw [rd_av ua_Ar2_int sc_int sz_int hlt' hy]
    have hx' : κ' x = .held := by rw [hE.ext x (W.lt (by rw [hx]; nofun))]; exact hx
    refine push Wj Vj hy0 hyr (fun _ _ => nofun) hx' (by show 1 ≤ S.ex - j; omega) fun h3 κ3 L3 W3 V3 E3 => ?_
    simp only [rd_add]
    rw [show ((1 : Nat) : Int) = 1 from rfl, wrap_succ (by omega)]
    refine hk2 _ _ ⟨j + 1, κ3, L3, rfl, hlt', ?_, ?_, hE.trans E3⟩ (by simp only [iv, Int.toNat_natCast]; omega)
    · exact W3
    · exact V3
  · have : j = 2 := by have : ¬ ((j : Int) < 2) := by simpa using hge2
                       omega
    subst this
    exact hk true h2 κ' L Wj Vj hE
end Go.Proofs.Ytihbhklcnbdijaa
