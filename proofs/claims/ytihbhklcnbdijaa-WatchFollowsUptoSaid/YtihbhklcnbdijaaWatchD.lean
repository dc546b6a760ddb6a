/- The walk: watch, runs. -/
import Derived.Test.YtihbhklcnbdijaaWatchC
set_option linter.unusedSimpArgs false
set_option linter.unusedVariables false
namespace Go.Proofs.Ytihbhklcnbdijaa
open Go

/-- Numbers and truths of the Watch itself. -/
theorem WI.scal {C : WC} {κ : Nat → Kind} {o : Option Nat} {S : WS} {h : Heap} {tv sv lo A B : Value} (hd : Nat) (r c : Bool) (W : WI C κ o S h) (hr : row h C.w = some [A, tv, sv, I S.head, B, lo, .bool S.rest, .bool S.clash]) :
    WI C κ o { S with head := hd, rest := r, clash := c } (hput h C.w [A, tv, sv, I hd, B, lo, .bool r, .bool c]) ∧ Nx o h κ (hput h C.w [A, tv, sv, I hd, B, lo, .bool r, .bool c]) κ ∧ row (hput h C.w [A, tv, sv, I hd, B, lo, .bool r, .bool c]) C.w = some [A, tv, sv, I hd, B, lo, .bool r, .bool c] := by
  have f : Fr2 h (hput h C.w [A, tv, sv, I hd, B, lo, .bool r, .bool c]) [C.w] := (Fr2.refl _ _).put (.inl (by simp))
  obtain ⟨tv', sv', lo', h1, h2, _⟩ := W.cells
  have hF : ∀ b ∈ [C.w], κ b = .watch := fun b hb => by simp at hb; subst hb; exact W.kw
  rw [hr] at h1
  injection h1 with h1
  injection h1 with e1 h1
  injection h1 with e2 h1
  injection h1 with e3 h1
  injection h1 with _ h1
  injection h1 with e4 h1
  injection h1 with e5 h1
  subst e1 e2 e3 e4 e5
  refine ⟨W.trailUpd (F := [C.w]) (tv' := tv) f (fun b hb => .inl (hF b hb)) (Ext.refl _ _) (fun b hb => by rw [size_hput] at hb; exact W.fresh b hb) (fun b hb e => by rw [W.fresh b hb] at e; cases e) ?_ (h2.frame f (fun b hb e => by rw [hF b hb] at e; cases e) fun _ _ => rfl) (f.row W.vals (fun hb => by have := hF _ hb; rw [W.kv] at this; cases this)) rfl rfl rfl rfl, Nx.of f (Ext.refl _ _) fun b hb hfre => ?_, hput_same hr⟩
  · intro tv0 sv0 lo0 e0
    rw [hr] at e0
    injection e0 with e0
    injection e0 with _ e0
    injection e0 with e2 e0
    injection e0 with e3 e0
    injection e0 with _ e0
    injection e0 with _ e0
    injection e0 with e5 e0
    subst e2 e3 e5
    exact hput_same hr
  · rw [hF b hb] at hfre
    rcases hfre with hfre | ⟨_, _, hfre⟩ <;> cases hfre
theorem k_look {C : WC} {κ : Nat → Kind} {S : WS} {h : Heap} {x : Nat} (W : WI C κ none S h) (V : VS C S) (hx : κ x = .held) {Q : Value → Heap → Prop}
    (hk : ∀ h' κ' S', WI C κ' none S' h' → VS C S' → Nx none h κ h' κ' → Gr C S S' → Q (.bool true) h') : callF P F.watch_Watch_look [pt C.w, pt x] h Q := by
  refine ok_watch_Watch_look ?_
  obtain ⟨lv, ls, a, b, h1, ⟨lbs, h2, h2k⟩, h3, h4, h5, h6, h7⟩ := W.helds x hx
  have hI : Ints h lv ls := h2.src
  obtain ⟨la, lc, rfl, hg⟩ := hI.form
  unfold t_watch_Watch_look
  simp only [okNil_ptr, true_and, fa_watch_held_lits, Nat.zero_add, rd_ldr h1 sc_Sl_int, List.getElem?_cons_zero, optK_some, ln_Sl_int]
  refine lp2_of (fun z1 z h' => h' = h ∧ ∃ (i : Nat) (la : Int), z1 = I la ∧ z = I i ∧ i ≤ ls.length ∧ (∀ y ∈ ls.take i, valOf S.vals y = -1 ∨ (valOf S.vals y = 0 ∧ y = la)) ∧ (la = 0 ∨ (la ∈ ls ∧ valOf S.vals la = 0))) (fun _ z _ => ls.length - iv z) ⟨rfl, 0, 0, rfl, rfl, Nat.zero_le _, by simp, .inl rfl⟩ ?_
  rintro z1 z g h' ⟨rfl, i, la, rfl, rfl, hi, hall, hla⟩ k hk'
  simp only [rd_lss, br_bool]
  have done : Q (.bool true) h' := hk h' κ S W V (Nx.refl _ _ _) (Gr.refl _ _)
  refine ⟨fun hlt => ?_, fun hge => ?_⟩
  · have hlt' : i < ls.length := by simpa using hlt
    have hm := List.getElem_mem hlt'
    obtain ⟨y0, yR⟩ := h3 _ hm
    simp only [jn]
    rw [ints_el hg hlt']
    have htk : ∀ (p : Int → Prop), (∀ y ∈ ls.take i, p y) → p ls[i] → ∀ y ∈ ls.take (i + 1), p y := fun p h1 h2 y hy => by
      rw [List.take_succ_eq_append_getElem hlt'] at hy
      rcases List.mem_append.1 hy with h | h
      · exact h1 y h
      · simp at h; subst h; exact h2
    generalize ls[i] = y at *
    rw [k_of W V yR]
    simp only [rd_eql, rd_neq, br_bool, rd_add]
    rw [wrap_succ (by omega)]
    have hy3 := valOf_in V y
    refine ⟨fun _ => done, fun hn1 => ⟨fun hz => ⟨fun _ => done, fun hl0 => ?_⟩, fun hnz => ?_⟩⟩
    · have hz' : valOf S.vals y = 0 := by simpa using hz
      have hl0' : la = 0 := by simpa using hl0
      refine hk' _ _ _ ⟨rfl, i + 1, y, rfl, rfl, hlt', htk _ (fun q hq => ?_) (.inr ⟨hz', rfl⟩), .inr ⟨hm, hz'⟩⟩ (by simp only [iv, Int.toNat_natCast]; omega)
      rcases hall q hq with h | ⟨_, h⟩
      · exact .inl h
      · have := (h3 q (List.mem_of_mem_take hq)).1; omega
    · have hn1' : valOf S.vals y ≠ 1 := by simpa using hn1
      have hnz' : valOf S.vals y ≠ 0 := by simpa using hnz
      exact hk' _ _ _ ⟨rfl, i + 1, la, rfl, rfl, hlt', htk _ hall (.inl (by omega)), hla⟩ (by simp only [iv, Int.toNat_natCast]; omega)
  · have hil : i = ls.length := by have : ¬ (i < ls.length) := by simpa using hge
                                   omega
    subst hil
    rw [List.take_length] at hall
    obtain ⟨t, ht, htt⟩ := List.any_eq_true.1 h4
    have ht3 := h3 t ht
    have : t = la ∧ valOf S.vals t = 0 := by
      rcases hall t ht with e | ⟨e, e2⟩
      · rw [V.false ht3.1 ht3.2 e] at htt; cases htt
      · exact ⟨e2, e⟩
    obtain ⟨rfl, hv0⟩ := this
    simp only [rd_eql, br_bool]
    refine ⟨fun e => absurd (by simpa using e) ht3.1, fun _ => ?_⟩
    exact k_put W V ht3.1 ht3.2 hv0 htt fun h2 κ2 W2 N2 => hk _ _ _ W2 (V.put ht3.1 ht3.2 hv0 htt).1 N2 (Gr.put V ht3.1 ht3.2 hv0 htt)
/-- Of a run: what doesn't turn. -/
structure Gs (S S' : WS) : Prop where
  starts : S'.starts = S.starts
  loose : S'.loose = S.loose
  K : S'.K = S.K
  lo : S'.lo = S.lo
theorem Gs.refl (S : WS) : Gs S S := ⟨rfl, rfl, rfl, rfl⟩
theorem Gs.trans {S S' S'' : WS} (a : Gs S S') (b : Gs S' S'') : Gs S S'' := ⟨b.starts.trans a.starts, b.loose.trans a.loose, b.K.trans a.K, b.lo.trans a.lo⟩
theorem Gr.gs {C : WC} {S S' : WS} (a : Gr C S S') : Gs S S' := ⟨a.starts, a.loose, a.K, a.lo⟩
def zH (C : WC) (h : Heap) : Nat :=
  match row h C.vb with
  | some l => zeros (l.map fun v => match v with | .int _ i => i | _ => 1)
  | none => 0
def tH (C : WC) (h : Heap) : Nat :=
  match row h C.w with
  | some (_ :: .slice _ n _ :: _ :: .int _ hd :: _) => n - hd.toNat
  | _ => 0
theorem WI.zH {C : WC} {κ : Nat → Kind} {o : Option Nat} {S : WS} {h : Heap} (W : WI C κ o S h) : zH C h = zeros S.vals := by
  unfold Go.Proofs.Ytihbhklcnbdijaa.zH
  rw [W.vals]
  simp [List.map_map, Function.comp_def]
theorem own_form {h : Heap} {v : Value} {bs : List Nat} {xs : List Value} (ho : Own h 1 v bs xs) : ∃ a c, v = .slice a xs.length c := by
  obtain ⟨a, c, e, _⟩ := Src.form ho.src
  exact ⟨a, c, e⟩
theorem WI.tH {C : WC} {κ : Nat → Kind} {o : Option Nat} {S : WS} {h : Heap} (W : WI C κ o S h) : tH C h = S.trail.length - S.head := by
  obtain ⟨tv, sv, lo, h1, ⟨bs, h2, _⟩, _⟩ := W.cells
  obtain ⟨a, c, rfl⟩ := own_form h2
  unfold Go.Proofs.Ytihbhklcnbdijaa.tH
  rw [h1]
  simp
theorem k_spread {C : WC} {κ : Nat → Kind} {S : WS} {h : Heap} (W : WI C κ none S h) (V : VS C S) {Q : Value → Heap → Prop}
    (hk : ∀ h' κ' S', WI C κ' none S' h' → VS C S' → Nx none h κ h' κ' → Gs S S' → Q (.bool true) h') : callF P F.watch_Watch_spread [pt C.w] h Q := by
  refine ok_watch_Watch_spread ?_
  unfold t_watch_Watch_spread
  refine lp0_of (fun h' => ∃ κ' S', WI C κ' none S' h' ∧ VS C S' ∧ Nx none h κ h' κ' ∧ Gs S S') (fun h' => zH C h') ⟨κ, S, W, V, Nx.refl _ _ _, Gs.refl _⟩ ?_
  rintro g1 h1 ⟨κ1, S1, W1, V1, N1, G1⟩ k1 hk1
  refine lp0_of (fun h' => ∃ κ' S', WI C κ' none S' h' ∧ VS C S' ∧ Nx none h κ h' κ' ∧ Gs S S' ∧ zeros S'.vals ≤ zeros S1.vals) (fun h' => zH C h' + tH C h') ⟨κ1, S1, W1, V1, N1, G1, Nat.le_refl _⟩ ?_
  rintro g2 h2 ⟨κ2, S2, W2, V2, N2, G2, hz2⟩ k2 hk2
  obtain ⟨tv, sv, lo, c1, ⟨tb, t1, tk⟩, _, ⟨lb, l1, lk⟩, l2, hlo⟩ := W2.cells
  have hI : Ints h2 tv S2.trail := t1.src
  obtain ⟨ta, tc, rfl, hg⟩ := hI.form
  have htz := V2.tz
  have hn20 := V2.n20
  have hhd := V2.hd
  simp only [okNil_ptr, true_and, fa_watch_Watch_head, fa_watch_Watch_trail, fa_watch_Watch_loose, Nat.zero_add, rd_ldr c1 sc_int, rd_ldr c1 sc_Sl_int, rd_ldr c1 sc_Sl_P_watch_held, List.getElem?_cons_zero, List.getElem?_cons_succ, optK_some, ln_Sl_int, ln_Sl_P_watch_held, rd_lss, br_bool]
  refine ⟨fun hlt => ?_, fun hge => ?_⟩
  · have hlt' : S2.head < S2.trail.length := by simpa using hlt
    rw [ints_el hg hlt']
    obtain ⟨y0, yR, yt⟩ := V2.tr _ (List.getElem_mem hlt')
    generalize S2.trail[S2.head] = y at *
    simp only [rd_add]
    rw [wrap_succ (by omega)]
    refine sem_st1 ti_int c1 (by simp) rfl ?_
    simp only [List.set_cons_succ, List.set_cons_zero]
    obtain ⟨W3, N3, r3⟩ := WI.scal (S2.head + 1) S2.rest S2.clash W2 c1
    have V3 : VS C { S2 with head := S2.head + 1, rest := S2.rest, clash := S2.clash } := { V2 with hd := hlt' }
    simp only [rd_neg]
    have yR' : inR C.n (-y) := by unfold inR at *; omega
    have yb := yR
    unfold inR at yb
    rw [wrap_in (by omega) (by omega)]
    refine k_visit W3 V3 (by omega) yR' (by rw [tru_neg y0, yt]; rfl) fun h4 κ4 S4 W4 V4 N4 G4 => ?_
    simp only [rd_not, br_bool, Bool.not_true]
    refine ⟨nofun, fun _ => hk2 h4 ⟨κ4, S4, W4, V4, N2.trans (N3.trans N4), G2.trans (Gs.mk G4.starts G4.loose G4.K G4.lo), ?_⟩ ?_⟩
    · have := G4.zs
      obtain ⟨t, ht⟩ := G4.trail
      have e : S4.trail.length = S2.trail.length + t.length := by rw [ht]; simp
      have e2 : zeros S4.vals + S4.trail.length = zeros S2.vals + S2.trail.length := this
      omega
    · rw [W4.zH, W4.tH, W2.zH, W2.tH]
      have e2 : zeros S4.vals + S4.trail.length = zeros S2.vals + S2.trail.length := G4.zs
      have e3 : S4.head = S2.head + 1 := G4.head
      obtain ⟨t, ht⟩ := G4.trail
      have e : S4.trail.length = S2.trail.length + t.length := by rw [ht]; simp
      omega
  · -- the clauses that are gone through whole
    obtain ⟨la, lc, rfl⟩ := own_form l1
    simp only [ln_Sl_P_watch_held]
    refine lp1_of (fun z h' => ∃ (j : Nat) (κ' : Nat → Kind) (S' : WS), z = I j ∧ j ≤ S2.loose.length ∧ WI C κ' none S' h' ∧ VS C S' ∧ Nx none h2 κ2 h' κ' ∧ Gr C S2 S') (fun z _ => S2.loose.length - iv z) ⟨0, κ2, S2, rfl, Nat.zero_le _, W2, V2, Nx.refl _ _ _, Gr.refl _ _⟩ ?_
    rintro z g3 h3 ⟨j, κ3, S3, rfl, hj, W3, V3, N3, G3⟩ k3 hk3
    obtain ⟨tv3, sv3, lo3, d1, ⟨tb3, u1, uk⟩, _, ⟨lb3, m1, mk⟩, m2, hlo3⟩ := W3.cells
    have e : lo3 = .slice la (List.map pt S2.loose).length lc := by rw [hlo3, G3.lo, ← hlo]
    subst e
    rw [G3.loose] at m1 m2
    obtain ⟨la', lc', e', hgl⟩ := Src.form m1.src
    injection e' with e1 _ e3
    subst e1 e3
    have hll : (S2.loose.map pt).length = S2.loose.length := List.length_map _
    simp only [rd_lss, br_bool]
    have hlb : S2.loose.length < 4611686018427387904 := by have := V2.sum; have := V2.kb; omega
    refine ⟨fun hlt => ?_, fun hge => ?_⟩
    · have hlt' : j < S2.loose.length := by simpa using hlt
      obtain ⟨bq, oq, rfl, hcq⟩ := hgl j (by rw [hll]; exact hlt')
      rw [ix_Sl_P_watch_held (by rw [hll]; exact hlt'), Nat.mul_one, rd_ld hcq sc_P_watch_held]
      simp only [List.getElem_map]
      refine k_look W3 V3 (m2 _ (List.getElem_mem hlt')) fun h4 κ4 S4 W4 V4 N4 G4 => ?_
      simp only [rd_not, br_bool, Bool.not_true, rd_add]
      rw [wrap_succ (by omega)]
      exact ⟨nofun, fun _ => hk3 _ _ ⟨j + 1, κ4, S4, rfl, hlt', W4, V4, N3.trans N4, G3.trans G4⟩ (by simp only [iv, Int.toNat_natCast]; omega)⟩
    · obtain ⟨ta3, tc3, rfl⟩ := own_form u1
      simp only [rd_ldr d1 sc_Sl_int, List.getElem?_cons_zero, List.getElem?_cons_succ, optK_some, ln_Sl_int, rd_eql, br_bool, List.length_map]
      refine ⟨fun _ => hk h3 κ3 S3 W3 V3 (N2.trans N3) (G2.trans G3.gs), fun hne => ?_⟩
      have hne' : S3.trail.length ≠ S2.trail.length := fun e => by rw [e] at hne; simp at hne
      refine hk1 h3 ⟨κ3, S3, W3, V3, N2.trans N3, G2.trans G3.gs⟩ ?_
      rw [W3.zH, W1.zH]
      have := G3.zs
      obtain ⟨t, ht⟩ := G3.trail
      have e : S3.trail.length = S2.trail.length + t.length := by rw [ht]; simp
      omega
end Go.Proofs.Ytihbhklcnbdijaa
