/- Literals and clauses, in plain Lean: no program in sight. -/
namespace Go.Proofs.Ytihbhklcnbdijaa
def formed (l : Int) : Bool := l != 0 && (decide (l ≥ -1048576) && decide (l ≤ 1048576))
theorem formed_iff {l : Int} : formed l = true ↔ l ≠ 0 ∧ -1048576 ≤ l ∧ l ≤ 1048576 := by simp [formed]
def varOf (l : Int) : Int := if formed l then (if l < 0 then -l else l) else 0
def ixOf (l : Int) : Int := if formed l then (if l < 0 then 2 * -l - 1 else 2 * l - 2) else -1
theorem ixOf_inj {a b : Int} (ha : formed a = true) (hb : formed b = true) (h : ixOf a = ixOf b) : a = b := by
  rw [formed_iff] at ha hb
  simp only [ixOf, formed_iff.2 ha, formed_iff.2 hb, if_true] at h
  split at h <;> split at h <;> omega
theorem formed_neg {l : Int} : formed (-l) = formed l := by
  rw [Bool.eq_iff_iff, formed_iff, formed_iff]; omega
def sound (c : List Int) : Bool := c.all formed
/-- Neighbours that are the same but once. -/
def compact : List Int → List Int
  | [] => []
  | [a] => [a]
  | a :: b :: l => if a = b then compact (b :: l) else a :: compact (b :: l)
def byIx (a b : Int) : Bool := decide (ixOf a ≤ ixOf b)
def tidy (c : List Int) : List Int := compact ((c.filter formed).mergeSort byIx)
theorem mem_compact {x : Int} : ∀ {l : List Int}, x ∈ compact l ↔ x ∈ l
  | [] => Iff.rfl
  | [a] => Iff.rfl
  | a :: b :: l => by
    simp only [compact]
    split
    · rename_i e; subst e; rw [mem_compact]; simp
    · rw [List.mem_cons, mem_compact]; simp
theorem mem_tidy {x : Int} {c : List Int} : x ∈ tidy c ↔ x ∈ c ∧ formed x = true := by
  simp only [tidy, mem_compact, List.mem_mergeSort, List.mem_filter]
/-- Rising by place, each once. -/
def Rising (l : List Int) : Prop := l.Pairwise fun a b => ixOf a < ixOf b
theorem compact_rising : ∀ {l : List Int}, (∀ x ∈ l, formed x = true) → l.Pairwise (fun a b => ixOf a ≤ ixOf b) → Rising (compact l)
  | [], _, _ => List.Pairwise.nil
  | [a], _, _ => by simp [compact, Rising]
  | a :: b :: l, hf, hp => by
    have hp' := List.pairwise_cons.1 hp
    have ih := compact_rising (l := b :: l) (fun x hx => hf x (List.mem_cons_of_mem _ hx)) hp'.2
    simp only [compact]
    split
    · exact ih
    · rename_i hne
      refine List.pairwise_cons.2 ⟨fun x hx => ?_, ih⟩
      rw [mem_compact] at hx
      have h1 := hp'.1 x hx
      have h2 := hp'.1 b (by simp)
      rcases List.mem_cons.1 hx with rfl | hx
      · rcases Int.lt_or_eq_of_le h1 with h | h
        · exact h
        · exact absurd (ixOf_inj (hf a (by simp)) (hf x (by simp)) h) hne
      · have h3 := (List.pairwise_cons.1 hp'.2).1 x hx
        have h4 : ixOf a ≠ ixOf b := fun e => hne (ixOf_inj (hf a (by simp)) (hf b (by simp)) e)
        omega
theorem tidy_rising (c : List Int) : Rising (tidy c) := by
  refine compact_rising (fun x hx => ?_) ?_
  · rw [List.mem_mergeSort, List.mem_filter] at hx; exact hx.2
  · have := List.pairwise_mergeSort (le := byIx) (fun a b c h1 h2 => by simp only [byIx, decide_eq_true_eq] at *; omega) (fun a b => by simp only [byIx, Bool.or_eq_true, decide_eq_true_eq]; omega) (c.filter formed)
    exact this.imp fun h => by simpa [byIx] using h
theorem rising_ext : ∀ {l m : List Int}, Rising l → Rising m → (∀ x, x ∈ l ↔ x ∈ m) → l = m
  | [], [], _, _, _ => rfl
  | [], b :: m, _, _, h => by have := (h b).2 (by simp); simp at this
  | a :: l, [], _, _, h => by have := (h a).1 (by simp); simp at this
  | a :: l, b :: m, hl, hm, h => by
    have hl' := List.pairwise_cons.1 hl
    have hm' := List.pairwise_cons.1 hm
    have e : a = b := by
      rcases List.mem_cons.1 ((h a).1 (by simp)) with e | ha
      · exact e
      · rcases List.mem_cons.1 ((h b).2 (by simp)) with e | hb
        · exact e.symm
        · have := hl'.1 b hb; have := hm'.1 a ha; omega
    subst e
    congr 1
    refine rising_ext hl'.2 hm'.2 fun x => ⟨fun hx => ?_, fun hx => ?_⟩
    · rcases List.mem_cons.1 ((h x).1 (by simp [hx])) with e | hx'
      · subst e; have := hl'.1 x hx; omega
      · exact hx'
    · rcases List.mem_cons.1 ((h x).2 (by simp [hx])) with e | hx'
      · subst e; have := hm'.1 x hx; omega
      · exact hx'
theorem compact_of_rising : ∀ {l : List Int}, Rising l → compact l = l
  | [], _ => rfl
  | [a], _ => rfl
  | a :: b :: l, h => by
    have h' := List.pairwise_cons.1 h
    have : a ≠ b := fun e => by subst e; have := h'.1 a (by simp); omega
    simp only [compact, if_neg this]
    rw [compact_of_rising h'.2]
theorem tidy_of_rising {c : List Int} (h : Rising c) (hf : ∀ x ∈ c, formed x = true) : tidy c = c :=
  rising_ext (tidy_rising c) h fun x => by rw [mem_tidy]; exact ⟨fun h => h.1, fun h => ⟨h, hf x h⟩⟩
/-- A literal and its opposite. -/
def taut (c : List Int) : Bool := c.any fun l => formed l && c.contains (-l)
def neighb : List Int → Bool
  | a :: b :: l => b == -a || neighb (b :: l)
  | _ => false
theorem neighb_iff : ∀ {l : List Int}, Rising l → (∀ x ∈ l, formed x = true) → (neighb l = true ↔ ∃ x ∈ l, -x ∈ l)
  | [], _, _ => by simp [neighb]
  | [a], _, hf => by
    have := formed_iff.1 (hf a (by simp))
    simp [neighb]; omega
  | a :: b :: l, hr, hf => by
    have hr' := List.pairwise_cons.1 hr
    have ih := neighb_iff hr'.2 (fun x hx => hf x (by simp [hx]))
    simp only [neighb, Bool.or_eq_true, beq_iff_eq, ih]
    constructor
    · rintro (e | ⟨x, h1, h2⟩)
      · exact ⟨a, by simp, by simp [e]⟩
      · exact ⟨x, List.mem_cons_of_mem _ h1, List.mem_cons_of_mem _ h2⟩
    · -- one of them stands first
      have key : ∀ x, x ∈ a :: b :: l → -x ∈ a :: b :: l → ixOf x < ixOf (-x) → b = -a ∨ ∃ x ∈ b :: l, -x ∈ b :: l := by
        intro x h1 h2 hlt
        rcases List.mem_cons.1 h1 with rfl | h1
        · left
          have hx := formed_iff.1 (hf x (by simp))
          rcases List.mem_cons.1 h2 with e | h2
          · omega
          · rcases List.mem_cons.1 h2 with e | h2
            · exact e.symm
            · have h3 := hr'.1 b (by simp)
              have h4 := (List.pairwise_cons.1 hr'.2).1 _ h2
              have hb := formed_iff.1 (hf b (by simp))
              have hnx := formed_neg (l := x) ▸ hf x (by simp)
              simp only [ixOf, hnx, hf x (by simp), hf b (by simp), if_true] at h3 h4 hlt
              split at h3 <;> split at h3 <;> split at h4 <;> split at h4 <;> omega
        · rcases List.mem_cons.1 h2 with e | h2
          · exfalso
            have h3 := hr'.1 x h1
            rw [← e] at h3; omega
          · exact .inr ⟨x, h1, h2⟩
      rintro ⟨x, h1, h2⟩
      rcases Int.lt_or_le (ixOf x) (ixOf (-x)) with h | h
      · exact key x h1 h2 h
      · refine key (-x) h2 (by simpa using h1) ?_
        have hx := formed_iff.1 (hf x h1)
        rw [Int.neg_neg]
        have hne : ixOf x ≠ ixOf (-x) := fun e => by
          have := ixOf_inj (hf x h1) (by rw [formed_neg]; exact hf x h1) e
          omega
        omega
theorem taut_iff {c : List Int} : taut c = true ↔ ∃ x ∈ c, formed x = true ∧ -x ∈ c := by
  simp [taut, List.any_eq_true]
theorem neighb_tidy (c : List Int) : neighb (tidy c) = taut c := by
  rw [Bool.eq_iff_iff, neighb_iff (tidy_rising c) (fun x hx => (mem_tidy.1 hx).2), taut_iff]
  constructor
  · rintro ⟨x, h1, h2⟩
    exact ⟨x, (mem_tidy.1 h1).1, (mem_tidy.1 h1).2, (mem_tidy.1 h2).1⟩
  · rintro ⟨x, h1, h2, h3⟩
    exact ⟨x, mem_tidy.2 ⟨h1, h2⟩, mem_tidy.2 ⟨h3, by rw [formed_neg]; exact h2⟩⟩
end Go.Proofs.Ytihbhklcnbdijaa
