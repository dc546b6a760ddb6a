/- The law WatchFollows returns true for every input whose values are at most 1048576: behind each step what is known is true in the model, and no clash is told. Conditions: none beside that bound (its row's 'narrowed'). -/
import Derived.Test.YtihbhklcnbdijaaWatchJ
import Derived.Test.YtihbhklcnbdijaaRow
set_option linter.unusedSimpArgs false
set_option linter.unusedVariables false
namespace Go.Proofs.Ytihbhklcnbdijaa
open Go Go.ChangeShapes Go.WideShapes Go.ChangeAt Go.RowKit
theorem cells_list {cs : Array Value} {a b : Value} (h : cs.size = 2) (h1 : (cs.toList.drop 0).take 1 = [a]) (h2 : (cs.toList.drop 1).take 1 = [b]) : cs = #[a, b] := by
  obtain ⟨l⟩ := cs
  match l, h, h1, h2 with
  | [x, y], _, h1, h2 => simp at h1 h2; simp [h1, h2]
theorem trod_steps {H : Type} {enc : TypeId × Value → H} {W : World} {spare : Nat → Bool} {held : Bool} {fuel : Nat} {cs : List Value} {d : DataW H} {ps : List MemPlace} (h : DataW.trod enc P W 0 spare held fuel T.Sl_depotlaw07_Op cs = some (d, ps)) :
    ∃ v ss, cs = [v] ∧ Steps W.heap v ss ∧ ss.length + 1 ≤ Rows.uptoBulk d ∧ ∀ s ∈ ss, s.lits.length + 1 ≤ Rows.uptoBulk d ∧ in64 s.lit ∧ ∀ l ∈ s.lits, in64 l := by
  obtain ⟨v, css, els, h1, ⟨a, m, c, e1, e2, e3⟩, h3, h4, h5, h6, a', m', c', e4, e5⟩ := trod_sl (P := P) (e := T.depotlaw07_Op) (sz := 4) (by kernel_rfl) (by kernel_rfl) (by omega) h
  rw [e1] at e4
  injection e4 with _ e4 _
  subst e4 e5
  have key : ∀ i (q1 : i < css.length) (q2 : i < els.length), ∃ (s : Stp) (w u : Value), css[i] = [I s.kind, w, I s.lit, u] ∧ Ints W.heap u s.lits ∧ s.lits.length + 1 ≤ Rows.uptoBulk els[i] ∧ in64 s.lit ∧ ∀ l ∈ s.lits, in64 l := by
    intro i q1 q2
    obtain ⟨f, q, hq⟩ := h5 i q1 q2
    obtain ⟨_, el0, f0, p0, t0, _⟩ := trod_fld (i := 0) (ft := T.int) (off := 0) (n := 1) (by kernel_rfl) (by kernel_rfl) hq
    obtain ⟨_, el2, f2, p2, t2, _⟩ := trod_fld (i := 2) (ft := T.int) (off := 2) (n := 1) (by kernel_rfl) (by kernel_rfl) hq
    obtain ⟨_, el3, f3, p3, t3, b3⟩ := trod_fld (i := 3) (ft := T.Sl_int) (off := 3) (n := 1) (by kernel_rfl) (by kernel_rfl) hq
    obtain ⟨n0, c0, _⟩ := trod_int' (by kernel_rfl) t0
    obtain ⟨n2, c2, i2, j2⟩ := trod_int' (by kernel_rfl) t2
    obtain ⟨u, xs, c3, x1, x2, x3⟩ := trod_ints (e := T.int) (by kernel_rfl) (by kernel_rfl) (by kernel_rfl) t3
    have hl := h4 i q1
    match hc : css[i], hl with
    | [y0, y1, y2, y3], _ =>
      rw [hc] at c0 c2 c3
      simp at c0 c2 c3
      exact ⟨⟨n0, n2, xs⟩, y1, u, by rw [c0, c2, c3], x1, by simp only; omega, ⟨i2, j2⟩, x2⟩
  have ex : ∃ ss : List Stp, ss.length = css.length ∧ (∀ i (q1 : i < css.length) (q2 : i < ss.length), ∃ w u, css[i] = [I ss[i].kind, w, I ss[i].lit, u] ∧ Ints W.heap u ss[i].lits) ∧ ∀ s ∈ ss, s.lits.length + 1 ≤ Rows.uptoBulkAll els ∧ in64 s.lit ∧ ∀ l ∈ s.lits, in64 l := by
    clear h4 h5 h6 h1 e1 e2 e3
    induction css generalizing els with
    | nil => exact ⟨[], rfl, by simp, by simp⟩
    | cons c css ih =>
      cases els with
      | nil => simp at h3
      | cons el els =>
        obtain ⟨s, w, u, k1, k2, k3, k4⟩ := key 0 (by simp) (by simp)
        obtain ⟨ss, z1, z2, z3⟩ := ih els (by simpa using h3) fun i q1 q2 => key (i + 1) (Nat.succ_lt_succ q1) (Nat.succ_lt_succ q2)
        refine ⟨s :: ss, by simp [z1], fun i q1 q2 => ?_, fun s' hs' => ?_⟩
        · cases i with
          | zero => exact ⟨w, u, k1, k2⟩
          | succ i => exact z2 i (Nat.lt_of_succ_lt_succ q1) (Nat.lt_of_succ_lt_succ q2)
        · simp only [Rows.uptoBulkAll]
          rcases List.mem_cons.1 hs' with rfl | hs'
          · simp only [List.getElem_cons_zero] at k3
            exact ⟨by omega, k4⟩
          · have := z3 s' hs'; exact ⟨by omega, this.2⟩
  obtain ⟨ss, z1, z2, z3⟩ := ex
  have hb := bulk_len els
  refine ⟨v, ss, h1, ⟨a, c, by rw [e1, z1], fun i hi => ?_⟩, by omega, fun s hs => by have := z3 s hs; exact ⟨by omega, this.2⟩⟩
  obtain ⟨w, u, k1, k2⟩ := z2 i (by omega) hi
  rcases e3 with e3 | ⟨b, o, rfl, hc⟩
  · omega
  · have flat : ∀ (css : List (List Value)), (∀ i (hi : i < css.length), css[i].length = 4) → ∀ i (hi : i < css.length) j, j < 4 → css.flatten[i * 4 + j]? = css[i][j]? := by
      intro css
      induction css with
      | nil => intro _ i hi; simp at hi
      | cons c css ih =>
        intro hl i hi j hj
        have h0 := hl 0 (by simp)
        simp only [List.getElem_cons_zero] at h0
        cases i with
        | zero => rw [List.flatten_cons, List.getElem?_append_left (by omega)]; simp
        | succ i =>
          rw [List.flatten_cons, List.getElem?_append_right (by omega), h0, show (i + 1) * 4 + j - 4 = i * 4 + j by omega]
          exact ih (fun i hi => hl (i + 1) (Nat.succ_lt_succ hi)) i (Nat.lt_of_succ_lt_succ hi) j hj
    have hg := fun j (hj : j < 4) => hcells_get hc (i * 4 + j) (by have : i < css.length := by omega
                                                                   omega)
    have hf := flat css h4 i (by omega)
    rw [k1] at hf
    refine ⟨b, o, u, rfl, ?_, ?_, ?_, k2⟩
    · have := hg 0 (by omega); rw [hf 0 (by omega)] at this; simpa using this
    · have := hg 2 (by omega); rw [hf 2 (by omega)] at this; rw [show o + i * 4 + 2 = o + (i * 4 + 2) by omega]; simpa using this
    · have := hg 3 (by omega); rw [hf 3 (by omega)] at this; rw [show o + i * 4 + 3 = o + (i * 4 + 3) by omega]; simpa using this
theorem wf_params : Try.f3.params = #[T.api_Formula, T.Sl_bool, T.Sl_depotlaw07_Op] := by kernel_rfl
set_option maxRecDepth 100000 in
theorem wf_contract (H : Type) (enc : TypeId × Value → H) (W : World) (base : Nat) (args : Array Value) (ds gs : List (DataW H)) (before : List MemPlace)
    (hval : ∀ (j : Nat) t v, Try.f3.params[j]? = some t → args[j]? = some v → Value.okWide P W .any base t v)
    (hW : DataW.Whole enc P Try.f3.params.toList Rows.watchFollowsSpec.vars false W args.toList ds gs before) (hk : Rows.uptoSmall H (ds ++ gs) = true) :
    Calls P F.depotlaw07_WatchFollows args W fun e W' => ∃ v, e = .returned v ∧ Rows.watchFollowsSpec.post enc P Try.f3 false true false false W args v W' := by
  have hW' := hW
  obtain ⟨p, q, hA0, hV, rfl, hfz, hnd⟩ := hW
  have hA : DataW.TrodAll enc P W 0 (fun _ => true) true Try.f3.params.toList args.toList ds p := hA0
  obtain ⟨rfl, rfl⟩ := trodVars_none hV
  have hb := bulk_bound hk
  rw [wf_params] at hA hval
  obtain ⟨v0, vs0, d0, ds0, p0, q0, hargs, rfl, rfl, h0, r0⟩ := trodAll_cons hA
  obtain ⟨v1, vs1, d1, ds1, p1, q1, rfl, rfl, rfl, h1, r1⟩ := trodAll_cons r0
  obtain ⟨v2, vs2, d2, ds2, p2, q2, rfl, rfl, rfl, h2, r2⟩ := trodAll_cons r1
  obtain ⟨rfl, rfl, rfl⟩ := trodAll_nil r2
  obtain rfl : args = #[v0, v1, v2] := by obtain ⟨l⟩ := args; have : l = _ := hargs; rw [this]
  simp only [List.append_nil, Rows.uptoBulkAll] at hb
  obtain ⟨c0, rfl, hs0⟩ := okWide_agg (by kernel_rfl) (hval 0 _ v0 rfl rfl)
  obtain ⟨a1, m1, l1, rfl⟩ := okWide_slice (e := T.bool) (by kernel_rfl) (hval 1 _ v1 rfl rfl)
  obtain ⟨a2, m2, l2, rfl⟩ := okWide_slice (e := T.depotlaw07_Op) (by kernel_rfl) (hval 2 _ v2 rfl rfl)
  obtain ⟨f0, h0⟩ := h0
  obtain ⟨f1, h1⟩ := h1
  obtain ⟨f2, h2⟩ := h2
  have hs2 : c0.size = 2 := by rw [hs0]; kernel_rfl
  obtain ⟨_, e0, g0, k0, t0, _⟩ := trod_fld (i := 0) (ft := T.int) (off := 0) (n := 1) (by kernel_rfl) (by kernel_rfl) h0
  obtain ⟨_, e1, g1, k1, t1, b1⟩ := trod_fld (i := 1) (ft := T.Sl_Sl_int) (off := 1) (n := 1) (by kernel_rfl) (by kernel_rfl) h0
  obtain ⟨n, n1, n2, n3⟩ := trod_int' (by kernel_rfl) t0
  obtain ⟨cv, cs, y1, y2, y3, y4⟩ := trod_rows (e := T.Sl_int) (e2 := T.int) (by kernel_rfl) (by kernel_rfl) (by kernel_rfl) (by kernel_rfl) (by kernel_rfl) t1
  obtain ⟨mv, m, z1, z2, z3⟩ := trod_bools (e := T.bool) (by kernel_rfl) (by kernel_rfl) (by kernel_rfl) h1
  obtain ⟨sv, ss, s1, s2, s3, s4⟩ := trod_steps h2
  have hc0 : c0 = #[I n, cv] := cells_list hs2 n1 y1
  subst hc0
  have ez : Value.slice a1 m1 l1 = mv := by simpa [Value.cells] using z1
  have es : Value.slice a2 m2 l2 = sv := by simpa [Value.cells] using s1
  rw [ez, es] at hW' ⊢
  refine Calls.mono (callF_calls en_depotlaw07_WatchFollows (k_WatchFollows y2 z2 s2 (by omega) (fun c hc => by have := (y3 c hc).2; omega) (by omega) (by omega) (fun s hs => by have := (s4 s hs).1; omega) (fun c hc l hl => (y3 c hc).1 l hl) (fun s hs => (s4 s hs).2) (Q := fun v h' => v = .bool true ∧ Fr2 W.heap h' []) fun h' f => ⟨rfl, f⟩)) fun e W' r => ?_
  obtain ⟨v, rfl, sm, rfl, fr⟩ := r
  refine ⟨_, rfl, law_post laid_out rfl (tb := T.bool) (by kernel_rfl) (by kernel_rfl) (fun t ht => ?_) (by simpa using hW') rfl sm fr⟩
  rw [wf_params] at ht
  simp at ht
  rcases ht with rfl | rfl | rfl <;> exact ⟨by kernel_rfl, of_decide_eq_true (by kernel_rfl)⟩
set_option maxRecDepth 100000 in
theorem wf_lifted (os : Os) (started : os.Started) (H : Type) (enc : TypeId × Value → H) (F : Stop.Interp) :
    ReturnsInHanded {} Try.checked os 3 .any ((Rows.OpenSpec.upto Rows.watchFollowsSpec).pre6 enc Try.prog Try.f3 Rows.watchFollowsUptoRow.domain false) (((Rows.OpenSpec.upto Rows.watchFollowsSpec).at F).post enc Try.prog Try.f3 false true false false) := by
  refine returnsInHanded_of_cond (C := Try.checked) (s := Rows.OpenSpec.upto Rows.watchFollowsSpec) (k := Rows.uptoSmall) rfl own_knob started (by kernel_rfl) Try.func3
    (OpenSpec.witness (enc := enc) (C := Try.checked) (s := Rows.OpenSpec.upto Rows.watchFollowsSpec) (k := Rows.uptoSmall) rfl false ⟨#[], #[.agg #[I 0, .slice none 0 0], .slice none 0 0, .slice none 0 0], []⟩ 8 (by kernel_rfl) (by kernel_rfl) (by kernel_rfl)
      (x := ([.agg [.lit (.int .i64 0), .nil], .nil, .nil], [], [])) (by kernel_rfl) rfl (by kernel_rfl)) ?_
  intro W base args ds gs before hval hW _ hk _
  exact wf_contract H enc W base args ds gs before hval hW hk
/-- The law holds. -/
theorem watchFollows_holds : Rows.WatchFollowsUptoSaid :=
  OpenClaim.holds_of_cond 3 Try.f3 rfl rfl rfl rfl rfl rfl rfl ⟨rfl, rfl, rfl, rfl, rfl⟩ rfl rfl rfl rfl rfl (by kernel_rfl) Try.func3 (by kernel_rfl)
    (of_decide_eq_true (by kernel_rfl)) (by unfold Func.isWrapper; first | (rw [if_pos (by decide +kernel)]; kernel_rfl) | (rw [if_neg (by decide +kernel)]; exact ⟨rfl, rfl⟩))
    (fun os started H enc _ F => wf_lifted os started H enc F)
end Go.Proofs.Ytihbhklcnbdijaa
