/- The walk: slices.SortFunc by lits.byIndex, by the shelf's contract. -/
import Derived.Test.YtihbhklcnbdijaaLits
import Derived.Test.YtihbhklcnbdijaaShelf
set_option linter.unusedSimpArgs false
set_option linter.unusedVariables false
namespace Go.Proofs.Ytihbhklcnbdijaa
open Go Go.Proofs Go.Shelf Go.RowKit Go.Lib Go.Sort

/-- A literal. -/
abbrev Lit := { l : Int // formed l = true }
instance : Inhabited Lit := ⟨⟨1, rfl⟩⟩
def encL (x : Lit) : Value := I x.1
def cfL (x y : Lit) : Int := ixOf x.1 - ixOf y.1
theorem ltL (x y : Lit) : ltOf cfL x y = decide (ixOf x.1 < ixOf y.1) := by
  unfold ltOf cfL
  by_cases h : ixOf x.1 < ixOf y.1 <;> simp [h] <;> omega
theorem swoL : SWO (ltOf cfL) where
  irrefl x := by rw [ltL]; simp
  trans x y z h1 h2 := by rw [ltL] at *; simp at *; omega
  ntrans x y z h1 h2 := by rw [ltL] at *; simp at *; omega
theorem cmpL (blk off size : Nat) (w : World) : CmpLays1 P F.lits_byIndex #[] encL cfL blk off size w := by
  intro m os dk hs x y
  generalize hW : sortWorld encL w blk off m dk os = W
  have h := (k_byIndex (a := x.1) (b := y.1) (h := W.heap) (Q := fun v h' => v = I (ixOf x.1 - ixOf y.1) ∧ h' = W.heap)).mpr ⟨rfl, rfl⟩
  have he := en_lits_byIndex.en ⟨[I x.1, I y.1]⟩ W
  obtain ⟨n, w', hr, hsm, hn⟩ := h W rfl
  rw [he] at hr
  injection hr with e1 e2
  subst e1 e2
  refine Calls.mono hn fun e w' r => ?_
  cases e with
  | returned v =>
    obtain ⟨s, rfl, hh⟩ := r
    refine ⟨rfl, w'.drawn - W.drawn, #[], ?_⟩
    rw [grow_empty]
    obtain ⟨h1, h2, h3, h4⟩ := s
    have e1 : w' = ⟨w'.heap, w'.tape, w'.drawn, w'.os, w'.output⟩ := rfl
    have e2 : W.drewN (w'.drawn - W.drawn) = ⟨W.heap, W.tape, W.drawn + (w'.drawn - W.drawn), W.os, W.output⟩ := rfl
    have e3 : W.drawn + (w'.drawn - W.drawn) = w'.drawn := by omega
    rw [e2, e3, ← hh, ← h1, ← h2, ← h3]
  | panicked c => exact r.elim
  | outgrown => exact r.elim
theorem getD_lits (d : List Lit) (j : Nat) (hj : j < d.length) : (⟨d⟩ : Array Lit)[j]! = d[j] := by
  rw [getElem!_pos _ j (by simpa using hj)]; rfl
theorem heap_sorted {w : World} {b n : Nat} {c : Array Value} {rest : List Value} {t : TypeId} {lo hi : Nat} {os : Array Obj} {d : List Lit} (he : w.heap[b]? = some (.cells c t (lo, hi))) (hle : hi ≤ lo) (hc : c.toList.drop d.length = rest) (hd : d.length ≤ c.size) :
    row (sortWorld encL w b 0 n ⟨d⟩ os).heap b = some (d.map encL ++ rest) ∧ Fr2 w.heap (sortWorld encL w b 0 n ⟨d⟩ os).heap [b] := by
  have hlt : b < w.heap.size := (Array.getElem?_eq_some_iff.1 he).1
  have hh : (sortWorld encL w b 0 n ⟨d⟩ os).heap = w.heap.modify b (onCells (putCells encL 0 ⟨d⟩)) ++ os := rfl
  rw [hh]
  refine ⟨?_, by simp, fun x hx hF => ?_⟩
  · have h1 : (w.heap.modify b (onCells (putCells encL 0 ⟨d⟩)) ++ os)[b]? = some (.cells (putCells encL 0 ⟨d⟩ c) t (lo, hi)) := by
      rw [Array.getElem?_append_left (by simpa using hlt), Array.getElem?_modify, if_pos rfl, he]; rfl
    simp only [row, h1, if_pos hle]
    congr 1
    apply List.ext_getElem?
    intro j
    simp only [putCells, Array.toList_mapIdx, List.getElem?_mapIdx]
    by_cases hj : j < d.length
    · rw [List.getElem?_append_left (by simpa using hj)]
      have hjc : j < c.toList.length := by simp; omega
      rw [List.getElem?_eq_getElem hjc]
      simp [hj, getD_lits d j hj]
    · rw [List.getElem?_append_right (by simpa using hj), ← hc]
      simp only [List.length_map, List.getElem?_drop]
      rw [show d.length + (j - d.length) = j by omega]
      cases c.toList[j]? with
      | none => rfl
      | some v => simp [hj]
  · rw [Array.getElem?_append_left (by simpa using hx), Array.getElem?_modify, if_neg (by simpa using fun e => hF (by simp [e]))]
theorem sorted_ints (d : List Lit) : (d.mergeSort fun x y => !(ltOf cfL) y x).map (fun x => x.1) = (d.map fun x => x.1).mergeSort byIx := by
  refine List.map_mergeSort fun a _ b _ => ?_
  rw [ltL, Bool.eq_iff_iff]
  simp [byIx]
theorem lits_of {xs : List Int} (hf : ∀ x ∈ xs, formed x = true) : ∃ d : List Lit, d.map (fun x => x.1) = xs := ⟨xs.attach.map fun x => ⟨x.1, hf x.1 x.2⟩, by simp⟩
theorem k_SortInts {xs : List Int} {v : Value} {bs : List Nat} {h : Heap} (ho : Own h 1 v bs (xs.map I)) (hf : ∀ x ∈ xs, formed x = true) (hn : xs.length < 4611686018427387904) {Q : Value → Heap → Prop}
    (hk : ∀ h', Own h' 1 v bs ((xs.mergeSort byIx).map I) → Fr2 h h' bs → Q (.tuple #[]) h') : callF P F.slices_SortFunc_int [v, .func (.func F.lits_byIndex) #[] #[]] h Q := by
  have en : ∀ args w, (callFunc F.slices_SortFunc_int args).run P w = .ok (.enter F.slices_SortFunc_int args) w := Go.Proofs.Try.sortInt.f6.enters rfl
  have mkF : ∀ w : World, w.heap = h → Calls P F.slices_SortFunc_int #[v, .func (.func F.lits_byIndex) #[] #[]] w (CR w Q) → ∃ n w', (callFunc F.slices_SortFunc_int ⟨[v, .func (.func F.lits_byIndex) #[] #[]]⟩).run P w = .ok n w' ∧ Sm w w' ∧
    (match n with
     | .value v => Q v w'.heap
     | .skip => Q undef w'.heap
     | .enter f args => Calls P f args w' (CR w' Q)
     | _ => False) := fun w hw hc => ⟨_, w, en _ w, Sm.refl w, hc⟩
  intro w hw
  refine mkF w hw ?_
  subst hw
  rcases ho with ⟨rfl, hx, rfl⟩ | ⟨b, n, c, rest, rfl, rfl, hl, hnc, hr, hrl⟩
  · have hx0 : xs = [] := by simpa using hx
    subst hx0
    refine Calls.mono (AnyF.slices_SortFunc_none (ρ := Go.Proofs.Try.sortInt_ren) { Go.Proofs.Try.sortInt with } none 0 (.func (.func F.lits_byIndex) #[] #[]) w) ?_
    rintro e w' ⟨rfl, rfl⟩
    exact ⟨Sm.refl _, hk _ (by simpa using Own.nil _ _) (Fr2.refl _ _)⟩
  · obtain ⟨d, rfl⟩ := lits_of hf
    obtain ⟨c0, t, lo, hi, he, hle, hcl⟩ := row_get hr
    have hlen : n = d.length := by simpa using hl.symm
    subst hlen
    have hlt : b < w.heap.size := row_lt hr
    have hH : Holds encL w b 0 ⟨d⟩ := by
      intro j hj
      have hj' : j < d.length := by simpa using hj
      refine ⟨?_, hfree_row hr w rfl _⟩
      rw [cell_heap, hcell_row hr, Nat.zero_add, getD_lits d j hj', List.getElem?_append_left (by simpa using hj')]
      simp [encL, hj']
    have key := Any.slices_SortFunc_total (ρ := Go.Proofs.Try.sortInt_ren) Go.Proofs.Try.sortInt encL (fun _ => rfl) cfL swoL F.lits_byIndex #[] b 0 c ⟨d⟩ w (fun args w => en_lits_byIndex.en args w) (cmpL b 0 _ w) hH hlt (by simpa using hn) (fun x y h1 h2 => by
      rw [ltL] at h1 h2
      simp at h1 h2
      exact Subtype.ext (ixOf_inj x.2 y.2 (by omega)))
    refine Calls.mono key ?_
    rintro e w' ⟨rfl, n, os, rfl⟩
    have hml : (d.mergeSort fun x y => !(ltOf cfL) y x).length = d.length := List.length_mergeSort _
    obtain ⟨g1, g2⟩ := heap_sorted (n := n) (os := os) (d := d.mergeSort fun x y => !(ltOf cfL) y x) (rest := rest) he hle (by rw [hml, hcl]; simp) (by
      rw [hml]
      have : c0.size = c0.toList.length := by simp
      rw [this, hcl]; simp)
    refine ⟨⟨rfl, rfl, rfl, Nat.le_add_right _ _⟩, hk _ (.inr ⟨b, d.length, c, rest, rfl, rfl, by simp [List.length_mergeSort], hnc, ?_, hrl⟩) g2⟩
    have : ((d.map fun x => x.1).mergeSort byIx).map I = (d.mergeSort fun x y => !(ltOf cfL) y x).map encL := by
      rw [← sorted_ints, List.map_map]; rfl
    rw [this]
    exact g1
theorem compact_snoc (a b : Int) : ∀ l : List Int, compact (l ++ [a, b]) = if a = b then compact (l ++ [a]) else compact (l ++ [a]) ++ [b]
  | [] => by simp only [List.nil_append, compact]; split <;> simp_all
  | [c] => by
    have := compact_snoc a b []
    simp only [List.nil_append] at this
    simp only [List.cons_append, List.nil_append, compact]
    split <;> split <;> simp_all
  | c :: d :: l => by
    have ih := compact_snoc a b (d :: l)
    simp only [List.cons_append] at ih ⊢
    simp only [compact]
    split
    · exact ih
    · rw [ih]; split <;> rfl
theorem compact_take {xs : List Int} {j : Nat} (h0 : 0 < j) (hj : j < xs.length) : compact (xs.take (j + 1)) = if xs[j - 1] = xs[j] then compact (xs.take j) else compact (xs.take j) ++ [xs[j]] := by
  obtain ⟨i, rfl⟩ : ∃ i, j = i + 1 := ⟨j - 1, by omega⟩
  have e2 : xs.take (i + 1) = xs.take i ++ [xs[i]] := List.take_succ_eq_append_getElem (by omega)
  have e1 : xs.take (i + 1 + 1) = xs.take i ++ [xs[i], xs[i + 1]] := by rw [List.take_succ_eq_append_getElem hj, e2, List.append_assoc]; rfl
  rw [e1, e2, compact_snoc]
  rfl
theorem compact_len : ∀ l : List Int, (compact l).length ≤ l.length
  | [] => Nat.le_refl _
  | [a] => Nat.le_refl _
  | a :: b :: l => by
    simp only [compact]
    have := compact_len (b :: l)
    split <;> simp at this ⊢ <;> omega
theorem wrap_pred {n : Nat} (h0 : 0 < n) (h : n < 4611686018427387904) : IntKind.i64.wrap ((n : Int) - 1) = ((n - 1 : Nat) : Int) := by rw [wrap_in (by omega) (by omega)]; omega
theorem rd_row_el {h : Heap} {b n c i : Nat} {l : List Value} {v : Value} {k : Value → Prop} (hr : row h b = some l) (hi : i < n) (hv : l[i]? = some v) :
    (rd P h (Instr.indexAt T.Sl_int (.slice (some ⟨b, 0, none⟩) n c) (I i)) fun t => rd P h (Instr.loadAt T.int t) k) = k v := by
  rw [ix_Sl_int hi, Nat.zero_add, Nat.mul_one, rd_ldr hr sc_int, hv, optK_some]
theorem k_Compact {xs : List Int} {v : Value} {bs : List Nat} {h : Heap} (ho : Own h 1 v bs (xs.map I)) (hn : xs.length < 4611686018427387904) {Q : Value → Heap → Prop}
    (hk : ∀ v' h', Own h' 1 v' bs ((compact xs).map I) → Fr2 h h' bs → Q v' h') : callF P F.slices_Compact_int [v] h Q := by
  refine ok_slices_Compact_int ?_
  unfold t_slices_Compact_int
  rcases ho with ⟨rfl, hx, rfl⟩ | ⟨b, n, c, rest, rfl, rfl, hl, hnc, hr, hrl⟩
  · have hx0 : xs = [] := by simpa using hx
    subst hx0
    simp only [ln_Sl_int, rd_lss, br_bool]
    exact ⟨fun _ => hk _ _ (by simpa [compact] using Own.nil _ _) (Fr2.refl _ _), fun h => by simp at h⟩
  have hlen : n = xs.length := by simpa using hl.symm
  subst hlen
  have own0 : ∀ ys : List Int, ys = compact xs → ys = xs → Own h 1 (.slice (some ⟨b, 0, none⟩) xs.length c) [b] ((compact xs).map I) := fun ys e1 e2 => by
    rw [← e1, e2]; exact .inr ⟨b, xs.length, c, rest, rfl, rfl, hl, hnc, hr, hrl⟩
  simp only [ln_Sl_int, rd_lss, br_bool]
  refine ⟨fun h2 => ?_, fun h2 => ?_⟩
  · have h2' : xs.length < 2 := by simp at h2; omega
    refine hk _ _ (own0 xs ?_ rfl) (Fr2.refl _ _)
    match xs, h2' with
    | [], _ => rfl
    | [a], _ => rfl
  have h2' : 2 ≤ xs.length := by simp at h2; omega
  have hget : ∀ i (hi : i < xs.length), (xs.map I ++ rest)[i]? = some (I xs[i]) := fun i hi => by
    rw [List.getElem?_append_left (by simpa using hi)]; simp [hi]
  refine lp1_of (fun z h' => h' = h ∧ ∃ i : Nat, z = I i ∧ 1 ≤ i ∧ i ≤ xs.length ∧ compact (xs.take i) = xs.take i) (fun z _ => xs.length - iv z) ⟨rfl, 1, rfl, Nat.le_refl _, by omega, ?_⟩ ?_
  · match xs, h2' with
    | a :: _ :: _, _ => rfl
  rintro z g h0 ⟨rfl, i, rfl, h1, hi, hc⟩ k hk1
  simp only [rd_lss, br_bool]
  refine ⟨fun hlt => ?_, fun hge => ?_⟩
  rotate_left
  · have : i = xs.length := by have : ¬ (i < xs.length) := by simpa using hge
                               omega
    subst this
    rw [List.take_length] at hc
    exact hk _ _ (own0 xs hc.symm rfl) (Fr2.refl _ _)
  have hlt' : i < xs.length := by simpa using hlt
  rw [ix_Sl_int hlt']
  simp only [rd_sub, rd_add]
  rw [wrap_pred (by omega) (by omega), wrap_succ (by omega), ix_Sl_int (i := i - 1) (by omega)]
  simp only [Nat.zero_add, Nat.mul_one, rd_ldr hr sc_int, hget i hlt', hget (i - 1) (show i - 1 < xs.length by omega), optK_some, rd_eql, br_bool]
  refine ⟨fun heq => ?_, fun hne => ?_⟩
  rotate_left
  · refine hk1 _ _ ⟨rfl, i + 1, rfl, by omega, hlt', ?_⟩ (by simp only [iv, Int.toNat_natCast]; omega)
    rw [compact_take (by omega) hlt', if_neg (fun e => by rw [e] at hne; simp at hne), hc, List.take_succ_eq_append_getElem hlt']
  -- two neighbours are the same: the rest is moved together
  have heq' : xs[i] = xs[i - 1] := by simpa using heq
  have hci : c ≠ i := by omega
  rw [rd_sl_lo el_Sl_int (by omega)]
  simp only [if_neg hci, Nat.zero_add, Nat.mul_one]
  refine lp2_of (fun z y h' => ∃ (m j : Nat) (l : List Value), z = I m ∧ y = I j ∧ 1 ≤ j ∧ i + j ≤ xs.length ∧ m ≤ i + j - 1 ∧ Fr2 h0 h' [b] ∧ row h' b = some l ∧ l.length = c ∧ l.take m = (compact (xs.take (i + j))).map I ∧ m = (compact (xs.take (i + j))).length ∧ l.drop (i + j - 1) = (xs.map I ++ rest).drop (i + j - 1)) (fun _ y _ => xs.length - i - iv y) ?_ ?_
  · refine ⟨i, 1, xs.map I ++ rest, rfl, rfl, Nat.le_refl _, by omega, by omega, Fr2.refl _ _, hr, by simp; omega, ?_, ?_, rfl⟩
    · rw [compact_take (by omega) hlt', if_pos heq'.symm, hc, List.take_append_of_le_length (by simp; omega), List.map_take]
    · rw [compact_take (by omega) hlt', if_pos heq'.symm, hc]; simp; omega
  rintro z y g2 h2 ⟨m, j, l, rfl, rfl, hj1, hj2, hm, hf, hr2, hll, ht, hml, hd⟩ k2 hk2
  have hget2 : ∀ q (h1 : i + j - 1 ≤ q) (hq : q < xs.length), l[q]? = some (I xs[q]) := fun q h1 hq => by
    have := congrArg (fun l => l[q - (i + j - 1)]?) hd
    simp only [List.getElem?_drop] at this
    rw [show i + j - 1 + (q - (i + j - 1)) = q by omega] at this
    rw [this]; exact hget q hq
  simp only [ln_Sl_int, rd_lss, br_bool]
  refine ⟨fun hlt2 => ?_, fun hge2 => ?_⟩
  · have hlt2' : i + j < xs.length := by simp at hlt2; omega
    simp only [jn]
    rw [ix_Sl_int (i := j) (by omega)]
    simp only [rd_sub, rd_add]
    rw [wrap_pred (by omega) (by omega), wrap_succ (n := j) (by omega), ix_Sl_int (i := j - 1) (by omega)]
    simp only [Nat.mul_one, rd_ldr hr2 sc_int, hget2 (i + j) (by omega) hlt2', hget2 (i + (j - 1)) (by omega) (by omega), optK_some]
    have e1 : i + (j - 1) = i + j - 1 := by omega
    have hct := compact_take (xs := xs) (j := i + j) (by omega) hlt2'
    simp only [rd_neq, br_bool, rd_add]
    refine ⟨fun hne => ?_, fun heq2 => ?_⟩
    · have hne' : xs[i + j - 1] ≠ xs[i + j] := fun e => by simp only [e1] at hne; rw [e] at hne; simp at hne
      rw [ix_Sl_int (i := j) (by omega)]
      simp only [Nat.mul_one, rd_ldr hr2 sc_int, hget2 (i + j) (by omega) hlt2', optK_some]
      rw [ix_Sl_int (by omega), Nat.zero_add, Nat.mul_one]
      refine sem_st1 ti_int hr2 (by omega) rfl ?_
      rw [wrap_succ (n := m) (by omega)]
      rw [if_neg hne'] at hct
      refine hk2 _ _ _ ⟨m + 1, j + 1, _, rfl, rfl, by omega, by omega, by omega, hf.put (.inl (by simp)), hput_same hr2, by simpa using hll, ?_, ?_, ?_⟩ (by simp only [iv, Int.toNat_natCast]; omega)
      · rw [show i + (j + 1) = i + j + 1 by omega, hct, List.map_append, ← ht]
        apply List.ext_getElem?
        intro q
        by_cases hq : q < m
        · rw [List.getElem?_append_left (by simp; omega)]
          simp [List.getElem?_take, hq, show q < m + 1 by omega, List.getElem?_set, show m ≠ q by omega]
        · by_cases hq2 : q = m
          · subst hq2
            rw [List.getElem?_append_right (by simp; omega)]
            simp [List.getElem?_take, List.getElem?_set, show q < l.length by omega]
            rw [show q - min q l.length = 0 by omega]; simp
          · rw [List.getElem?_eq_none (by simp; omega), List.getElem?_eq_none (by simp; omega)]
      · rw [show i + (j + 1) = i + j + 1 by omega, hct]; simp [← hml]
      · apply List.ext_getElem?
        intro q
        have := congrArg (fun l => l[q + 1]?) hd
        simp only [List.getElem?_drop] at this ⊢
        rw [List.getElem?_set, if_neg (by omega), show i + (j + 1) - 1 + q = i + j - 1 + (q + 1) by omega]
        exact this
    · have heq2' : xs[i + j - 1] = xs[i + j] := by simp only [e1] at heq2; simp at heq2; exact heq2.symm
      rw [if_pos heq2'] at hct
      refine hk2 _ _ _ ⟨m, j + 1, l, rfl, rfl, by omega, by omega, by omega, hf, hr2, hll, ?_, ?_, ?_⟩ (by simp only [iv, Int.toNat_natCast]; omega)
      · rw [show i + (j + 1) = i + j + 1 by omega, hct]; exact ht
      · rw [show i + (j + 1) = i + j + 1 by omega, hct]; exact hml
      · have := congrArg (List.drop 1) hd
        rw [List.drop_drop, List.drop_drop] at this
        rw [show i + (j + 1) - 1 = i + j - 1 + 1 by omega]
        exact this
  · have hend : i + j = xs.length := by simp at hge2; omega
    rw [hend, List.take_length] at ht hml
    have hml2 := compact_len xs
    rw [rd_sl_lo el_Sl_int (by omega)]
    refine sem_clear sl_Sl_int ti_int rfl hr2 ?_ (by simp [sc1]) (by omega) fun zs hz _ => ?_
    · split <;> omega
    rw [rd_sl_hi el_Sl_int (by omega) (.inr ⟨b, 0, rfl⟩)]
    refine hk _ _ (.inr ⟨b, m, c, (lput l m zs).drop m, rfl, rfl, by simp [hml], by omega, ?_, ?_⟩) (hf.put (.inl (by simp)))
    · rw [hput_same hr2]
      congr 1
      by_cases hcm : c = m
      · rw [if_pos hcm]
        have : zs = [] := by
          apply List.length_eq_zero_iff.1; rw [hz]; omega
        subst this
        rw [lput_nil, lput_nil, ← ht, List.take_append_drop]
      · rw [if_neg hcm, Nat.zero_add, Nat.mul_one, ← ht]
        simp only [lput]
        rw [List.append_assoc, List.drop_left' (by simp; omega)]
    · simp [lput, hz]; omega
/-- Its length is no more. -/
theorem tidy_len (c : List Int) : (tidy c).length ≤ c.length := by
  refine Nat.le_trans (compact_len _) ?_
  rw [List.length_mergeSort]
  exact List.length_filter_le _ _
theorem filter_take_succ {xs : List Int} {p : Int → Bool} {i : Nat} (hi : i < xs.length) : (xs.take (i + 1)).filter p = (xs.take i).filter p ++ (if p xs[i] then [xs[i]] else []) := by
  rw [List.take_succ_eq_append_getElem hi, List.filter_append]
  congr 1
  cases hp : p xs[i] <;> simp [List.filter, hp]
theorem Fr2.sub {h h1 h2 : Heap} {G : List Nat} (f : Fr2 h h1 []) (g : Fr2 h1 h2 G) (hG : ∀ b ∈ G, h.size ≤ b) : Fr2 h h2 [] := f.trans g fun b hb => .inr (hG b hb)
/-- The number of the last index is a place. -/
theorem k_Tidy {xs : List Int} {v : Value} {h : Heap} (hx : Ints h v xs) (hn : xs.length < 2199023255551) {Q : Value → Heap → Prop}
    (hk : ∀ v' h' bs, Own h' 1 v' bs ((tidy xs).map I) → Fr2 h h' [] → (∀ b ∈ bs, h.size ≤ b) → Q v' h') : callF P F.lits_Tidy [v] h Q := by
  refine ok_lits_Tidy ?_
  obtain ⟨a, c, rfl, hg⟩ := hx.form
  unfold t_lits_Tidy
  simp only [ln_Sl_int]
  refine sem_make (l := 0) sl_Sl_int ti_int rfl (Nat.zero_le _) (by omega) (by omega) fun cells hcl _ => ?_
  have f0 : Fr2 h (hnew h cells T.int) [] := (Fr2.refl h []).new
  have o0 : Own (hnew h cells T.int) 1 (.slice (some ⟨h.size, 0, none⟩) 0 xs.length) [h.size] [] := .inr ⟨h.size, 0, xs.length, cells, rfl, rfl, rfl, Nat.zero_le _, row_hnew_new, by simpa using hcl⟩
  generalize hnew h cells T.int = h1 at f0 o0
  refine lp2_of (fun o z h' => ∃ (i : Nat) (bs : List Nat), z = I i ∧ i ≤ xs.length ∧ Own h' 1 o bs (((xs.take i).filter formed).map I) ∧ Fr2 h h' [] ∧ (∀ b ∈ bs, h.size ≤ b)) (fun _ z _ => xs.length - iv z) ⟨0, [h.size], rfl, Nat.zero_le _, o0, f0, by simp⟩ ?_
  rintro o z g h' ⟨i, bs, rfl, hi, ho, hf, hb⟩ k hk'
  have hg' : ∀ i (hi : i < xs.length), ∃ b o, a = some ⟨b, o, none⟩ ∧ hcell h' ⟨b, o + i, none⟩ = some (I xs[i]) := fun i hi => by
    obtain ⟨b, o, e, hc⟩ := hg i hi
    exact ⟨b, o, e, hf.cell hc (by simp)⟩
  simp only [rd_lss, br_bool]
  refine ⟨fun hlt => ?_, fun hge => ?_⟩
  · have hlt' : i < xs.length := by simpa using hlt
    simp only [jn]
    rw [ints_el hg' hlt']
    simp only [k_Formed, br_bool, rd_add]
    rw [wrap_succ (by omega)]
    have hs := filter_take_succ (p := formed) hlt'
    refine ⟨fun hfm => ?_, fun hfm => ?_⟩
    · refine app1 sl_Sl_int ti_int ho rfl (by omega) (by have := List.length_filter_le formed (xs.take i); simp at this ⊢; omega) fun v' h2 bs' h3 h4 h5 => ?_
      refine hk' _ _ _ ⟨i + 1, bs', rfl, hlt', ?_, hf.trans h4 fun b h => .inr (hb b h), fun b h => ?_⟩ ?_
      · rw [hs, if_pos hfm, List.map_append]; exact h3
      · rcases h5 b h with h | h
        · exact hb b h
        · have := hf.size; omega
      · simp only [iv, Int.toNat_natCast]; omega
    · refine hk' _ _ _ ⟨i + 1, bs, rfl, hlt', ?_, hf, hb⟩ ?_
      · rw [hs, hfm]; simpa using ho
      · simp only [iv, Int.toNat_natCast]; omega
  · have : i = xs.length := by have : ¬ (i < xs.length) := by simpa using hge
                               omega
    subst this
    rw [List.take_length] at ho
    refine k_SortInts ho (fun x hx => (List.mem_filter.1 hx).2) (by have := List.length_filter_le formed xs; omega) fun h2 ho2 hf2 => ?_
    refine k_Compact ho2 (by rw [List.length_mergeSort]; have := List.length_filter_le formed xs; omega) fun v' h3 ho3 hf3 => ?_
    exact hk _ _ _ ho3 ((hf.sub hf2 hb).sub hf3 hb) hb
theorem k_Taut {xs : List Int} {v : Value} {h : Heap} (hx : Ints h v xs) (hn : xs.length < 2199023255551) {Q : Value → Heap → Prop}
    (hk : ∀ h', Fr2 h h' [] → Q (.bool (taut xs)) h') : callF P F.lits_Taut [v] h Q := by
  refine ok_lits_Taut ?_
  unfold t_lits_Taut
  refine k_Tidy hx hn fun v1 h1 bs ho hf hb => ?_
  have hQ := hk h1 hf
  have hx1 : Ints h1 v1 (tidy xs) := ho.src
  obtain ⟨a, c, rfl, hg⟩ := hx1.form
  have hl := tidy_len xs
  have hys : ∀ x ∈ tidy xs, formed x = true := fun x hx => (mem_tidy.1 hx).2
  rw [← neighb_tidy] at hQ
  generalize tidy xs = ys at *
  refine lp1_of (fun z h' => h' = h1 ∧ ∃ i : Nat, z = I i ∧ 1 ≤ i ∧ i ≤ ys.length + 1 ∧ neighb ys = neighb (ys.drop (i - 1))) (fun z _ => ys.length + 1 - iv z) ⟨rfl, 1, rfl, Nat.le_refl _, by omega, by simp⟩ ?_
  rintro z g h' ⟨rfl, i, rfl, hi1, hi, hnb⟩ k hk
  simp only [ln_Sl_int, rd_lss, br_bool]
  refine ⟨fun hlt => ?_, fun hge => ?_⟩
  · have hlt' : i < ys.length := by simpa using hlt
    obtain ⟨b, o, rfl, hc⟩ := hg i hlt'
    obtain ⟨b', o', e, hc'⟩ := hg (i - 1) (by omega)
    injection e with e
    injection e with e1 e2
    subst e1 e2
    have e1 : ys.drop (i - 1) = ys[i - 1] :: ys[i] :: ys.drop (i + 1) := by
      rw [List.drop_eq_getElem_cons (by omega)]
      congr 1
      rw [show i - 1 + 1 = i by omega, List.drop_eq_getElem_cons hlt']
    rw [ix_Sl_int hlt']
    simp only [rd_sub, rd_add]
    rw [wrap_pred (by omega) (by omega), wrap_succ (by omega), ix_Sl_int (i := i - 1) (by omega), Nat.mul_one, Nat.mul_one, rd_ld hc sc_int, rd_ld hc' sc_int]
    have hfm := formed_iff.1 (hys ys[i - 1] (List.getElem_mem _))
    simp only [rd_neg, rd_eql, br_bool]
    rw [wrap_in (by omega) (by omega)]
    rw [e1, neighb] at hnb
    refine ⟨fun heq => ?_, fun hne => ?_⟩
    · rw [heq, Bool.true_or] at hnb
      rw [hnb] at hQ; exact hQ
    · rw [hne, Bool.false_or] at hnb
      refine hk _ _ ⟨rfl, i + 1, rfl, by omega, by omega, ?_⟩ (by simp only [iv, Int.toNat_natCast]; omega)
      rw [hnb, Nat.add_sub_cancel, List.drop_eq_getElem_cons hlt']
  · have hge' : ys.length ≤ i := by simpa using hge
    have : neighb (ys.drop (i - 1)) = false := by
      have : (ys.drop (i - 1)).length ≤ 1 := by simp; omega
      match ys.drop (i - 1), this with
      | [], _ => rfl
      | [a], _ => rfl
    rw [this] at hnb
    rw [hnb] at hQ; exact hQ
end Go.Proofs.Ytihbhklcnbdijaa
