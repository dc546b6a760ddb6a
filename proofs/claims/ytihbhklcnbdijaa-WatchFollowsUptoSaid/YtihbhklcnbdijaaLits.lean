/- The walk: lits, cnf.Formed, copies: what each computes. -/
import Derived.Test.YtihbhklcnbdijaaTextA
import Derived.Test.YtihbhklcnbdijaaFact
import Derived.Test.YtihbhklcnbdijaaPure
set_option linter.unusedSimpArgs false
set_option linter.unusedVariables false
namespace Go.Proofs.Ytihbhklcnbdijaa
open Go

abbrev I (n : Int) : Value := .int .i64 n
theorem wrap_in {n : Int} (h0 : -9223372036854775808 ≤ n) (h1 : n ≤ 9223372036854775807) : IntKind.i64.wrap n = n := w64_in h0 h1
theorem wrap_succ {n : Nat} (h : n < 4611686018427387904) : IntKind.i64.wrap ((n : Int) + 1) = ((n + 1 : Nat) : Int) := by rw [wrap_in (by omega) (by omega)]; omega
/-- A slice of numbers. -/
def Ints (h : Heap) (v : Value) (xs : List Int) : Prop := Src h 1 v (xs.map I)
theorem Src.form {h : Heap} {v : Value} {ys : List Value} (hx : Src h 1 v ys) : ∃ a c, v = .slice a ys.length c ∧ ∀ i (hi : i < ys.length), ∃ b o, a = some ⟨b, o, none⟩ ∧ hcell h ⟨b, o + i, none⟩ = some ys[i] := by
  obtain ⟨a, m, c, rfl, hl, hy⟩ := hx
  rw [Nat.mul_one] at hl
  refine ⟨a, c, by rw [hl], fun i hi => ?_⟩
  rcases hy with rfl | ⟨b, o, rfl, hc⟩
  · omega
  · rw [Nat.mul_one, ← hl] at hc
    exact ⟨b, o, rfl, by rw [hcells_get hc i hi]; exact List.getElem?_eq_getElem hi⟩
theorem Ints.form {h : Heap} {v : Value} {xs : List Int} (hx : Ints h v xs) : ∃ a c, v = .slice a xs.length c ∧ ∀ i (hi : i < xs.length), ∃ b o, a = some ⟨b, o, none⟩ ∧ hcell h ⟨b, o + i, none⟩ = some (I xs[i]) := by
  obtain ⟨a, c, e, hg⟩ := Src.form hx
  refine ⟨a, c, by rw [e]; simp, fun i hi => ?_⟩
  obtain ⟨b, o, e1, e2⟩ := hg i (by simpa using hi)
  exact ⟨b, o, e1, by rw [e2]; simp⟩
/-- What is no slice's place holds no memory of another: a slice that can be read is read still where nothing old is turned. -/
theorem hcells_frame {h h' : Heap} {F : List Nat} (f : Fr2 h h' F) {b : Nat} (hb : b ∉ F) : ∀ {n o : Nat} {l : List Value}, hcells h b o n = some l → hcells h' b o n = some l
  | 0, _, _, hl => hl
  | n + 1, o, l, hl => by
    simp only [hcells] at hl ⊢
    split at hl
    · rename_i v l' h1 h2
      rw [f.cell h1 hb, hcells_frame f hb h2]; exact hl
    · cases hl
theorem Src.keep {h h' : Heap} {sz : Nat} {v : Value} {ys : List Value} (hx : Src h sz v ys) (f : Fr2 h h' []) : Src h' sz v ys := by
  obtain ⟨a, m, c, e, hl, hy⟩ := hx
  refine ⟨a, m, c, e, hl, hy.imp id ?_⟩
  rintro ⟨b, o, e, hc⟩
  exact ⟨b, o, e, hcells_frame f (by simp) hc⟩
theorem Ints.keep {h h' : Heap} {v : Value} {xs : List Int} (hx : Ints h v xs) (f : Fr2 h h' []) : Ints h' v xs := Src.keep hx f
/-- The number in a value, as a measure. -/
def iv : Value → Nat
  | .int _ i => i.toNat
  | _ => 0

theorem k_Formed {l : Int} {h : Heap} {Q : Value → Heap → Prop} : callF P F.lits_Formed [I l] h Q = Q (.bool (formed l)) h := by
  refine callF_eq en_lits_Formed (ok_lits_Formed ?_) Q
  unfold t_lits_Formed
  simp only [rd_neq, rd_geq, rd_leq, isB_bool]
  by_cases h0 : l = 0
  · subst h0; simp [gq_false, ex_bool, isB, formed]
  · have h1 : (l != 0) = true := by simpa using h0
    by_cases h2 : l ≥ -1048576 <;> simp [h1, h2, gq_true, gq_false, rd_geq, ex_bool, isB, formed, h0, rd_leq]
theorem c_Formed {l : Int} {k : Value → Prop} : ca P F.lits_Formed [I l] k = k (.bool (formed l)) := ca_eq en_lits_Formed (fun h => by rw [k_Formed]; exact ⟨rfl, rfl⟩) k
theorem rc_eq {P : Program} {g : FuncId} {args : List Value} {h : Heap} {v : Value} (he : Ent P g) (H : callF P g args h fun v' h' => v' = v ∧ h' = h) (k : Value → Prop) : rc P h g args k = k v := by
  apply propext
  constructor
  · rintro ⟨u, hu, hk⟩
    obtain ⟨_, _, ⟨h1, _⟩, ⟨h2, _⟩⟩ := callF_agree he hu H
    exact h2 ▸ h1 ▸ hk
  · exact fun hk => ⟨v, H, hk⟩
theorem r_Formed {l : Int} {h : Heap} {k : Value → Prop} : rc P h F.lits_Formed [I l] k = k (.bool (formed l)) := rc_eq en_lits_Formed (by rw [k_Formed]; exact ⟨rfl, rfl⟩) k
theorem k_Var {l : Int} {h : Heap} {Q : Value → Heap → Prop} : callF P F.lits_Var [I l] h Q = Q (I (varOf l)) h := by
  refine callF_eq en_lits_Var (ok_lits_Var ?_) Q
  unfold t_lits_Var
  simp only [k_Formed, rd_not, br_bool, rd_lss, rd_neg]
  cases hf : formed l with
  | false => simp [varOf, hf]
  | true =>
    have := formed_iff.1 hf
    by_cases h0 : l < 0 <;> simp [varOf, hf, h0]
    rw [wrap_in (by omega) (by omega)]
theorem c_Var {l : Int} {k : Value → Prop} : ca P F.lits_Var [I l] k = k (I (varOf l)) := ca_eq en_lits_Var (fun h => by rw [k_Var]; exact ⟨rfl, rfl⟩) k
theorem r_Var {l : Int} {h : Heap} {k : Value → Prop} : rc P h F.lits_Var [I l] k = k (I (varOf l)) := rc_eq en_lits_Var (by rw [k_Var]; exact ⟨rfl, rfl⟩) k
theorem k_Index {l : Int} {h : Heap} {Q : Value → Heap → Prop} : callF P F.lits_Index [I l] h Q = Q (I (ixOf l)) h := by
  refine callF_eq en_lits_Index (ok_lits_Index ?_) Q
  unfold t_lits_Index
  simp only [k_Formed, rd_not, br_bool, rd_lss, rd_neg, rd_mul, rd_sub]
  cases hf : formed l with
  | false => simp [ixOf, hf]
  | true =>
    have := formed_iff.1 hf
    by_cases h0 : l < 0
    · simp [ixOf, hf, h0]
      rw [wrap_in (n := -l) (by omega) (by omega), wrap_in (n := 2 * -l) (by omega) (by omega), wrap_in (by omega) (by omega)]
    · simp [ixOf, hf, h0]
      rw [wrap_in (n := 2 * l) (by omega) (by omega), wrap_in (by omega) (by omega)]
theorem c_Index {l : Int} {k : Value → Prop} : ca P F.lits_Index [I l] k = k (I (ixOf l)) := ca_eq en_lits_Index (fun h => by rw [k_Index]; exact ⟨rfl, rfl⟩) k
theorem r_Index {l : Int} {h : Heap} {k : Value → Prop} : rc P h F.lits_Index [I l] k = k (I (ixOf l)) := rc_eq en_lits_Index (by rw [k_Index]; exact ⟨rfl, rfl⟩) k
theorem ixOf_bound (l : Int) : -1 ≤ ixOf l ∧ ixOf l < 2097152 := by
  cases hf : formed l with
  | false => simp [ixOf, hf]
  | true =>
    have := formed_iff.1 hf
    simp only [ixOf, hf, if_true]
    split <;> omega
theorem k_byIndex {a b : Int} {h : Heap} {Q : Value → Heap → Prop} : callF P F.lits_byIndex [I a, I b] h Q = Q (I (ixOf a - ixOf b)) h := by
  refine callF_eq en_lits_byIndex (ok_lits_byIndex ?_) Q
  unfold t_lits_byIndex
  have h1 := ixOf_bound a
  have h2 := ixOf_bound b
  simp only [k_Index, rd_sub]
  rw [wrap_in (by omega) (by omega)]
  exact ⟨rfl, trivial⟩
/-- A number of a slice. -/
theorem ints_el {h : Heap} {xs : List Int} {a : Option Addr} {c i : Nat} (hg : ∀ i (hi : i < xs.length), ∃ b o, a = some ⟨b, o, none⟩ ∧ hcell h ⟨b, o + i, none⟩ = some (I xs[i])) (hi : i < xs.length) {k : Value → Prop} :
    (rd P h (Instr.indexAt T.Sl_int (.slice a xs.length c) (I i)) fun t => rd P h (Instr.loadAt T.int t) k) = k (I xs[i]) := by
  obtain ⟨b, o, rfl, hc⟩ := hg i hi
  rw [ix_Sl_int hi, Nat.mul_one, rd_ld hc sc_int]
theorem all_take_succ {xs : List Int} {p : Int → Bool} {i : Nat} (hi : i < xs.length) (h : (xs.take i).all p = true) (hp : p xs[i] = true) : (xs.take (i + 1)).all p = true := by
  rw [List.take_succ_eq_append_getElem hi, List.all_append, h]
  simp [hp]
theorem k_Sound {xs : List Int} {v : Value} {h : Heap} (hx : Ints h v xs) (hn : xs.length < 4611686018427387904) {Q : Value → Heap → Prop} : callF P F.lits_Sound [v] h Q = Q (.bool (sound xs)) h := by
  refine callF_eq en_lits_Sound (ok_lits_Sound ?_) Q
  obtain ⟨a, c, rfl, hg⟩ := hx.form
  unfold t_lits_Sound
  simp only [ln_Sl_int]
  refine lp1_of (fun z h' => h' = h ∧ ∃ i : Nat, z = I i ∧ i ≤ xs.length ∧ (xs.take i).all formed = true) (fun z _ => xs.length - iv z) ⟨rfl, 0, rfl, Nat.zero_le _, by simp⟩ ?_
  rintro z g h' ⟨rfl, i, rfl, hi, hall⟩ k hk
  simp only [rd_lss, br_bool]
  refine ⟨fun hlt => ?_, fun hge => ?_⟩
  · have hlt' : i < xs.length := by simpa using hlt
    rw [ints_el hg hlt']
    simp only [k_Formed, rd_not, br_bool, rd_add]
    refine ⟨fun hf => ⟨?_, trivial⟩, fun hf => ?_⟩
    · congr 1
      symm
      rw [Bool.eq_false_iff]
      intro hs
      have := List.all_eq_true.1 hs xs[i] (List.getElem_mem _)
      rw [this] at hf; cases hf
    · rw [wrap_succ (by omega)]
      refine hk _ _ ⟨rfl, i + 1, rfl, hlt', all_take_succ hlt' hall (by simpa using hf)⟩ ?_
      simp only [iv, Int.toNat_natCast]; omega
  · have : i = xs.length := by have : ¬ (i < xs.length) := by simpa using hge
                               omega
    subst this
    rw [List.take_length] at hall
    exact ⟨by rw [show sound xs = true from hall], trivial⟩
theorem c_Sound {xs : List Int} {v : Value} {h : Heap} (hx : Ints h v xs) (hn : xs.length < 4611686018427387904) {k : Value → Prop} : rc P h F.lits_Sound [v] k = k (.bool (sound xs)) := rc_eq en_lits_Sound (by rw [k_Sound hx hn]; exact ⟨rfl, rfl⟩) k
theorem tidx {n : Nat} {i : Nat} (h : ¬ decide ((i : Int) < (n : Int)) = true) : n ≤ i := by
  simp at h; exact h
theorem own_nil1 {h : Heap} : Own h 1 (.slice none 0 0) [] [] := Own.nil h 1
/-- One more value behind a slice of our own. -/
theorem app1 {h : Heap} {ty by_ : Nat} {z : Value} {t e : Nat} {s : Value} {bs : List Nat} {xs : List Value} {x : Value} {k : Value → Heap → Prop} (hs : SlT P t e) (ht : TI P e [z] 1 by_) (ho : Own h 1 s bs xs) (hx : sc1 x = true) (hb : by_ ≤ 64) (hn : xs.length < 2199023255551)
    (hk : ∀ v' h' bs', Own h' 1 v' bs' (xs ++ [x]) → Fr2 h h' bs → (∀ b ∈ bs', b ∈ bs ∨ h.size ≤ b) → k v' h') :
    sem P (Instr.buildSlice t 1 #[(0, x)]) h fun v1 h1 => sem P (Builtin.append_ #[t, t] ty #[s, v1]) h1 k := by
  refine sem_bs1 hs ht (by rw [sc1_cells hx]; rfl) (by omega) (by omega) ?_
  rw [sc1_cells hx]
  refine sem_append (xs := xs) (ys := [x]) hs ht rfl (ho.frame (Fr2.new (Fr2.refl h [])) (by simp)) (own_new (n := 1) rfl).src (by simpa using hx) (by omega) ?_ (by simp; omega) ?_
  · simp only [List.length_cons, List.length_nil]
    refine Nat.le_trans (Nat.mul_le_mul (show xs.length + (0 + 1) ≤ 2199023255552 by omega) hb) (by decide)
  · intro v' h' bs' h1 h2 h3
    refine hk v' h' bs' h1 ((Fr2.new (Fr2.refl h bs)).trans h2 fun b hb => .inl hb) fun b hb => ?_
    rcases h3 b hb with h | h
    · exact .inl h
    · rw [size_hnew] at h; exact .inr (by omega)
theorem map_take_succ {xs : List Int} {i : Nat} (hi : i < xs.length) : (xs.take i).map I ++ [I xs[i]] = (xs.take (i + 1)).map I := by
  rw [List.take_succ_eq_append_getElem hi, List.map_append]; rfl
theorem k_CopyInts {xs : List Int} {v : Value} {h : Heap} (hx : Ints h v xs) (hn : xs.length < 2199023255551) {Q : Value → Heap → Prop}
    (hk : ∀ v' h' bs, Own h' 1 v' bs (xs.map I) → Fr2 h h' [] → (∀ b ∈ bs, h.size ≤ b) → Q v' h') : callF P F.depotref00_CopyInts [v] h Q := by
  refine ok_depotref00_CopyInts ?_
  obtain ⟨a, c, rfl, hg⟩ := hx.form
  unfold t_depotref00_CopyInts
  refine lp2_of (fun o z h' => ∃ (i : Nat) (bs : List Nat), z = I i ∧ i ≤ xs.length ∧ Own h' 1 o bs ((xs.take i).map I) ∧ Fr2 h h' [] ∧ (∀ b ∈ bs, h.size ≤ b)) (fun _ z _ => xs.length - iv z) ⟨0, [], rfl, Nat.zero_le _, own_nil1, Fr2.refl _ _, by simp⟩ ?_
  rintro o z g h' ⟨i, bs, rfl, hi, ho, hf, hb⟩ k hk'
  have hg' : ∀ i (hi : i < xs.length), ∃ b o, a = some ⟨b, o, none⟩ ∧ hcell h' ⟨b, o + i, none⟩ = some (I xs[i]) := fun i hi => by
    obtain ⟨b, o, e, hc⟩ := hg i hi
    exact ⟨b, o, e, hf.cell hc (by simp)⟩
  simp only [ln_Sl_int, rd_lss, br_bool]
  refine ⟨fun hlt => ?_, fun hge => ?_⟩
  · have hlt' : i < xs.length := by simpa using hlt
    rw [ints_el hg' hlt']
    refine app1 sl_Sl_int ti_int ho rfl (by omega) (by simp; omega) fun v' h2 bs' h3 h4 h5 => ?_
    simp only [rd_add]
    rw [wrap_succ (by omega)]
    refine hk' _ _ _ ⟨i + 1, bs', rfl, hlt', by rw [← map_take_succ hlt']; exact h3, hf.trans h4 fun b h => .inr (hb b h), fun b h => ?_⟩ ?_
    · rcases h5 b h with h | h
      · exact hb b h
      · have := hf.size; omega
    · simp only [iv, Int.toNat_natCast]; omega
  · have : i = xs.length := by have : ¬ (i < xs.length) := by simpa using hge
                               omega
    subst this
    rw [List.take_length] at ho
    exact hk _ _ _ ho hf hb
theorem k_within {xs : List Int} {v : Value} {n : Int} {h : Heap} (hx : Ints h v xs) (hn : xs.length < 4611686018427387904) {Q : Value → Heap → Prop} : callF P F.cnf_within [v, I n] h Q = Q (.bool (sound xs && xs.all fun l => decide (varOf l ≤ n))) h := by
  refine callF_eq en_cnf_within (ok_cnf_within ?_) Q
  unfold t_cnf_within
  simp only [k_Sound hx hn, rd_not, br_bool]
  obtain ⟨a, c, rfl, hg⟩ := hx.form
  refine ⟨fun hs => ?_, fun hs => ?_⟩
  · have : sound xs = false := by simpa using hs
    rw [this]; exact ⟨rfl, trivial⟩
  have hs' : sound xs = true := by simpa using hs
  simp only [ln_Sl_int]
  refine lp1_of (fun z h' => h' = h ∧ ∃ i : Nat, z = I i ∧ i ≤ xs.length ∧ (xs.take i).all (fun l => decide (varOf l ≤ n)) = true) (fun z _ => xs.length - iv z) ⟨rfl, 0, rfl, Nat.zero_le _, by simp⟩ ?_
  rintro z g h' ⟨rfl, i, rfl, hi, hall⟩ k hk
  simp only [rd_lss, br_bool]
  refine ⟨fun hlt => ?_, fun hge => ?_⟩
  · have hlt' : i < xs.length := by simpa using hlt
    rw [ints_el hg hlt']
    simp only [k_Var, rd_gtr, br_bool, rd_add]
    refine ⟨fun hf => ⟨?_, trivial⟩, fun hf => ?_⟩
    · rw [hs', Bool.true_and]
      congr 1
      symm
      rw [Bool.eq_false_iff]
      intro hs
      have := List.all_eq_true.1 hs xs[i] (List.getElem_mem _)
      simp at this hf; omega
    · rw [wrap_succ (by omega)]
      refine hk _ _ ⟨rfl, i + 1, rfl, hlt', all_take_succ hlt' hall (by simpa using hf)⟩ ?_
      simp only [iv, Int.toNat_natCast]; omega
  · have : i = xs.length := by have : ¬ (i < xs.length) := by simpa using hge
                               omega
    subst this
    rw [List.take_length] at hall
    rw [hs', hall]; exact ⟨rfl, trivial⟩
/-- A slice of slices of numbers. -/
def Rows (h : Heap) (v : Value) (cs : List (List Int)) : Prop := ∃ vs : List Value, Src h 1 v vs ∧ vs.length = cs.length ∧ ∀ i (h1 : i < vs.length) (h2 : i < cs.length), Ints h vs[i] cs[i]
theorem Rows.keep {h h' : Heap} {v : Value} {cs : List (List Int)} (hx : Rows h v cs) (f : Fr2 h h' []) : Rows h' v cs := by
  obtain ⟨vs, h1, h2, h3⟩ := hx
  exact ⟨vs, h1.keep f, h2, fun i a b => (h3 i a b).keep f⟩
theorem Rows.form {h : Heap} {v : Value} {cs : List (List Int)} (hx : Rows h v cs) : ∃ a c, v = .slice a cs.length c ∧ ∀ i (hi : i < cs.length), ∃ b o u, a = some ⟨b, o, none⟩ ∧ hcell h ⟨b, o + i, none⟩ = some u ∧ Ints h u cs[i] := by
  obtain ⟨vs, h1, h2, h3⟩ := hx
  obtain ⟨a, c, e, hg⟩ := h1.form
  refine ⟨a, c, by rw [e, h2], fun i hi => ?_⟩
  obtain ⟨b, o, e1, e2⟩ := hg i (by omega)
  exact ⟨b, o, _, e1, e2, h3 i (by omega) hi⟩
theorem rows_el {h : Heap} {cs : List (List Int)} {a : Option Addr} {c i : Nat} (hg : ∀ i (hi : i < cs.length), ∃ b o u, a = some ⟨b, o, none⟩ ∧ hcell h ⟨b, o + i, none⟩ = some u ∧ Ints h u cs[i]) (hi : i < cs.length) {k : Value → Prop}
    (hk : ∀ u, Ints h u cs[i] → k u) : rd P h (Instr.indexAt T.Sl_Sl_int (.slice a cs.length c) (I i)) fun t => rd P h (Instr.loadAt T.Sl_int t) k := by
  obtain ⟨b, o, u, rfl, hc, hu⟩ := hg i hi
  rw [ix_Sl_Sl_int hi, Nat.mul_one, rd_ld hc sc_Sl_int]
  exact hk u hu
def clauseOk (n : Int) (c : List Int) : Bool := sound c && c.all fun l => decide (varOf l ≤ n)
def formulaOk (n : Int) (cs : List (List Int)) : Bool := (decide (0 ≤ n) && decide (n ≤ 1048576)) && cs.all (clauseOk n)
theorem k_cnfFormed {n : Int} {v : Value} {cs : List (List Int)} {h : Heap} (hx : Rows h v cs) (hn : cs.length < 4611686018427387904) (hc : ∀ c ∈ cs, c.length < 4611686018427387904) {Q : Value → Heap → Prop}
    (hk : ∀ h', Fr2 h h' [] → Q (.bool (formulaOk n cs)) h') : callF P F.cnf_Formed [.agg #[I n, v]] h Q := by
  refine ok_cnf_Formed ?_
  unfold t_cnf_Formed
  refine sem_box ?_
  have hf : Fr2 h (hnew h (Value.agg #[I n, v]).cells.toList 24) [] := (Fr2.refl h []).new
  have hr : row (hnew h (Value.agg #[I n, v]).cells.toList 24) h.size = some [I n, v] := row_hnew_new
  have hx1 := hx.keep hf
  have hQ := hk _ hf
  generalize hnew h (Value.agg #[I n, v]).cells.toList 24 = h1 at hf hr hx1 hQ
  clear hk
  simp only [fa_api_Formula_Vars, fa_api_Formula_Clauses, Nat.zero_add, rd_ldr hr sc_int, rd_ldr hr sc_Sl_Sl_int, List.getElem?_cons_zero, List.getElem?_cons_succ, optK_some, rd_lss, isB_bool]
  have e0 : formulaOk n cs = (decide (0 ≤ n) && (decide (n ≤ 1048576) && cs.all (clauseOk n))) := by simp [formulaOk, Bool.and_assoc]
  by_cases h0 : n < 0
  · have : formulaOk n cs = false := by rw [e0]; simp; omega
    rw [this] at hQ
    simp [h0, gq_false, ex_bool, br_bool, hQ]
  have h0' : 0 ≤ n := by omega
  by_cases h2 : n > 1048576
  · have : formulaOk n cs = false := by rw [e0]; simp; omega
    rw [this] at hQ
    simp [h0, h2, gq_true, ex_bool, br_bool, hQ, rd_gtr, fa_api_Formula_Vars, rd_ldr hr sc_int, optK_some]
  have h2' : n ≤ 1048576 := by omega
  simp [h0, h2, gq_true, ex_bool, br_bool, rd_gtr, fa_api_Formula_Vars, rd_ldr hr sc_int, optK_some]
  rw [e0] at hQ
  simp only [h0', h2', decide_true, Bool.true_and] at hQ
  obtain ⟨a, c, rfl, hg⟩ := hx1.form
  simp only [ln_Sl_Sl_int]
  refine lp1_of (fun z h' => h' = h1 ∧ ∃ i : Nat, z = I i ∧ i ≤ cs.length ∧ (cs.take i).all (clauseOk n) = true) (fun z _ => cs.length - iv z) ⟨rfl, 0, rfl, Nat.zero_le _, by simp⟩ ?_
  rintro z g h' ⟨rfl, i, rfl, hi, hall⟩ k hk
  simp only [rd_lss, br_bool]
  refine ⟨fun hlt => ?_, fun hge => ?_⟩
  · have hlt' : i < cs.length := by simpa using hlt
    refine rows_el hg hlt' fun u hu => ?_
    simp only [fa_api_Formula_Vars, Nat.zero_add, rd_ldr hr sc_int, List.getElem?_cons_zero, optK_some, k_within hu (hc _ (List.getElem_mem _)), rd_not, br_bool, rd_add]
    refine ⟨fun hf => ?_, fun hf => ?_⟩
    · have : cs.all (clauseOk n) = false := by
        rw [Bool.eq_false_iff]
        intro hs
        have := List.all_eq_true.1 hs cs[i] (List.getElem_mem _)
        unfold clauseOk at this
        rw [this] at hf; cases hf
      rw [this] at hQ; exact hQ
    · rw [wrap_succ (by omega)]
      have hp : clauseOk n cs[i] = true := by unfold clauseOk; simpa using hf
      refine hk _ _ ⟨rfl, i + 1, rfl, hlt', ?_⟩ ?_
      · rw [List.take_succ_eq_append_getElem hlt', List.all_append, hall]; simp [hp]
      · simp only [iv, Int.toNat_natCast]; omega
  · have : i = cs.length := by have : ¬ (i < cs.length) := by simpa using hge
                               omega
    subst this
    rw [List.take_length] at hall
    rw [hall] at hQ; exact hQ
end Go.Proofs.Ytihbhklcnbdijaa
