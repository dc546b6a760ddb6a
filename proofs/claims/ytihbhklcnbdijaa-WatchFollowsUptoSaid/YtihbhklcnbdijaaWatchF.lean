/- The walk: watch, cuts and steps. -/
import Derived.Test.YtihbhklcnbdijaaWatchE
set_option linter.unusedSimpArgs false
set_option linter.unusedVariables false
namespace Go.Proofs.Ytihbhklcnbdijaa
open Go

theorem own_take {h : Heap} {v : Value} {bs : List Nat} {xs : List Value} {n : Nat} (ho : Own h 1 v bs xs) (hn : n ≤ xs.length) : ∃ a m c, v = .slice a m c ∧ n ≤ c ∧ (a = none ∨ ∃ b o, a = some ⟨b, o, none⟩) ∧ Own h 1 (.slice a n c) bs (xs.take n) := by
  rcases ho with ⟨rfl, rfl, rfl⟩ | ⟨b, m, c, rest, rfl, rfl, hl, hmc, hr, hrl⟩
  · have : n = 0 := by simpa using hn
    subst this
    exact ⟨none, 0, 0, rfl, Nat.le_refl _, .inl rfl, by simpa using Own.nil h 1⟩
  · refine ⟨some ⟨b, 0, none⟩, m, c, rfl, by omega, .inr ⟨b, 0, rfl⟩, .inr ⟨b, n, c, xs.drop n ++ rest, rfl, rfl, by simp; omega, by omega, ?_, by simp; omega⟩⟩
    rw [← List.append_assoc, List.take_append_drop]; exact hr
theorem k_Run {C : WC} {κ : Nat → Kind} {S : WS} {h : Heap} (W : WI C κ none S h) (V : VS C S) (hK : S.K < 549755813887) {Q : Value → Heap → Prop}
    (hk : ∀ h' κ' S', WI C κ' none S' h' → VS C S' → Nx none h κ h' κ' → S'.K = S.K → S'.rest = true → S'.clash = false → Q (.bool true) h') : callF P F.watch_Watch_Run [pt C.w] h Q := by
  refine ok_watch_Watch_Run ?_
  obtain ⟨tv, sv, lo, c1, ⟨tb, t1, tk⟩, _⟩ := W.cells
  obtain ⟨ta, tc, rfl⟩ := own_form t1
  unfold t_watch_Watch_Run
  simp only [okNil_ptr, true_and, fa_watch_Watch_trail, fa_watch_Watch_head, Nat.zero_add, rd_ldr c1 sc_Sl_int, rd_ldr c1 sc_int, List.getElem?_cons_zero, List.getElem?_cons_succ, optK_some, ln_Sl_int]
  refine k_spread W V fun h1 κ1 S1 W1 V1 N1 G1 => ?_
  refine jn_intro fun K hK1 => ?_
  have key : K h1 := by
    rw [hK1]
    refine jn_intro fun K2 hK2 => ?_
    have last : ∀ h2 κ2 S2, WI C κ2 none S2 h2 → VS C S2 → Nx none h1 κ1 h2 κ2 → S2.K = S1.K → K2 h2 := by
      intro h2 κ2 S2 W2 V2 N2 e2
      rw [hK2]
      obtain ⟨tv2, sv2, lo2, d1, _⟩ := W2.cells
      simp only [rd_not, fa_watch_Watch_rest, fa_watch_Watch_clash, Nat.zero_add]
      refine sem_st1 ti_bool d1 (by simp) rfl ?_
      simp only [List.set_cons_succ, List.set_cons_zero]
      obtain ⟨W3, N3, r3⟩ := WI.scal S2.head true S2.clash W2 d1
      refine sem_st1 ti_bool r3 (by simp) rfl ?_
      simp only [List.set_cons_succ, List.set_cons_zero]
      obtain ⟨W4, N4, r4⟩ := WI.scal S2.head true false W3 r3
      exact hk _ κ2 _ W4 { V2 with } (N1.trans (N2.trans (N3.trans N4))) (e2.trans G1.K) rfl rfl
    simp only [isB_tt, gq_true, gd_true, k_Depth W1, rd_eql, ex_bool, cond_true, br_bool]
    exact ⟨fun _ => k_tighten W1 V1 (by rw [G1.K]; exact hK) fun h2 κ2 S2 W2 V2 N2 e2 _ _ => last h2 κ2 S2 W2 V2 N2 e2, fun _ => last h1 κ1 S1 W1 V1 (Nx.refl _ _ _) rfl⟩
  simp only [rd_not, br_bool, Bool.not_true]
  exact ⟨nofun, fun _ => key⟩
theorem zeros_set_le (vals : List Int) (j : Nat) (x : Int) : zeros (vals.set j x) ≤ zeros vals + 1 := by
  unfold zeros
  by_cases hj : j < vals.length
  · rw [List.count_set hj]; split <;> split <;> omega
  · rw [List.set_eq_of_length_le (by omega)]; omega
theorem k_cut {C : WC} {κ : Nat → Kind} {S : WS} {h : Heap} {n : Nat} (W : WI C κ none S h) (V : VS C S) (hn : n ≤ S.trail.length) {Q : Value → Heap → Prop}
    (hk : ∀ h' κ' vs, WI C κ' none { S with vals := vs, trail := S.trail.take n, head := min S.head n } h' → VS C { S with vals := vs, trail := S.trail.take n, head := min S.head n, starts := S.starts.filter fun s => decide (s < n) } → Nx none h κ h' κ' → Q (.tuple #[]) h') : callF P F.watch_Watch_cut [pt C.w, I n] h Q := by
  refine ok_watch_Watch_cut ?_
  obtain ⟨tv, sv, lo, c1, ⟨tb, t1, tk⟩, c3, c4, c5, clo⟩ := W.cells
  have hlen := V.len
  have hn20 := V.n20
  have htz := V.tz
  have hhd := V.hd
  have hlm : (S.trail.map I).length = S.trail.length := List.length_map _
  obtain ⟨ta, tm, tc, rfl, hnc, hta, ot⟩ := own_take t1 (n := n) (by rw [hlm]; exact hn)
  obtain ⟨ta', tc', e', hgt⟩ := Src.form t1.src
  injection e' with e1 e2 e3
  subst e1 e2 e3
  unfold t_watch_Watch_cut
  simp only [okNil_ptr, true_and, fa_watch_Watch_trail, fa_watch_Watch_head, fa_watch_Watch_value, qfa_watch_Watch_value, c_Var, Nat.zero_add, rd_ldr c1 sc_Sl_int, List.getElem?_cons_zero, List.getElem?_cons_succ, optK_some]
  rw [hlm] at *
  -- what is behind it
  have hsl : ∃ b2 o2 : Nat, ∃ c2 : Nat, ∃ a2 : Option Addr, (∀ {k : Value → Prop}, rd P h (Instr.sliceAt 28 (.slice ta S.trail.length tc) (some (I n)) none none) k = k (.slice a2 (S.trail.length - n) c2)) ∧ (∀ i, i < S.trail.length - n → a2 = some ⟨b2, o2, none⟩ ∧ b2 ∈ tb ∧ o2 = n) := by
    rcases t1 with ⟨e, hx, rfl⟩ | ⟨b, m, c, rest, e, rfl, hl, hmc, hr, hrl⟩
    · injection e with e1 e2 e3
      subst e1 e3
      have hn0 : n = 0 := by omega
      subst hn0
      refine ⟨0, 0, 0, none, fun {k} => ?_, fun i hi => by omega⟩
      have : S.trail.length = 0 := e2
      rw [this]
      obtain ⟨el, inf, hu, hinf, _⟩ := elN_at el_Sl_int
      refine rd_eq (fun w hw => ?_) k
      have h2 := run_underlying hu w
      simp [Instr.sliceAt, Instr.slice, Instr.sliceBounds, Instr.sliceBound, asIntOf, h2, sizeOf, typeInfo, hinf]
    · injection e with e1 e2 e3
      subst e1
      refine ⟨b, n, tc - n, some ⟨b, if tc = n then 0 else 0 + n * 1, none⟩, fun {k} => rd_sl_lo el_Sl_int hn, fun i hi => ⟨?_, by simp, rfl⟩⟩
      rw [if_neg (by omega), Nat.zero_add, Nat.mul_one]
  obtain ⟨b2, o2, c2, a2, hs1, hs2⟩ := hsl
  rw [hs1]
  simp only [ln_Sl_int]
  refine lp1_of (fun z h' => ∃ (i : Nat) (vs : List Int), z = I i ∧ i ≤ S.trail.length - n ∧ WI C κ none { S with vals := vs } h' ∧ Nx none h κ h' κ ∧ row h' C.w = row h C.w ∧ Own h' 1 (.slice ta S.trail.length tc) tb (S.trail.map I) ∧ vs.length = C.n + 1 ∧ (∀ (j : Nat) (x : Int), vs[j]? = some x → x = 0 ∨ S.vals[j]? = some x) ∧ zeros vs ≤ zeros S.vals + i) (fun z _ => S.trail.length - n - iv z) ⟨0, S.vals, rfl, Nat.zero_le _, W, Nx.refl _ _ _, rfl, t1, hlen, fun _ _ h => .inr h, by omega⟩ ?_
  rintro z g h' ⟨i, vs, rfl, hi, W', N', r', t', hvl, hvs, hvz⟩ k hk'
  rw [c1] at r'
  simp only [rd_lss, br_bool]
  refine ⟨fun hlt => ?_, fun hge => ?_⟩
  · have hlt' : i < S.trail.length - n := by simp at hlt; omega
    obtain ⟨rfl, hb2, rfl⟩ := hs2 i hlt'
    have hcell : hcell h' ⟨b2, o2 + i, none⟩ = some (I (S.trail[o2 + i]'(by omega))) := by
      rcases t' with ⟨e, hx, rfl⟩ | ⟨b, m, c, rest, e, rfl, hl, hmc, hr, hrl⟩
      · cases hb2
      · simp at hb2; subst hb2
        rw [hcell_row hr, List.getElem?_append_left (by simp; omega)]
        simp
    obtain ⟨y0, yR, yt⟩ := V.tr _ (List.getElem_mem (show o2 + i < S.trail.length by omega))
    rw [ix_Sl_int hlt', Nat.mul_one, rd_ld hcell sc_int]
    generalize S.trail[o2 + i]'(by omega) = y at *
    unfold inR at yR
    have hvar : ∃ j : Nat, varOf y = j ∧ j < C.n + 1 := by
      have hf : formed y = true := formed_iff.2 ⟨y0, by omega, by omega⟩
      refine ⟨y.natAbs, ?_, by omega⟩
      simp only [varOf, hf, if_true]; split <;> omega
    obtain ⟨j, hj, hjn⟩ := hvar
    simp only [c_Var, hj]
    refine ⟨fun h2 => row h2 C.w = row h' C.w, rfl, qs_of (v := .slice (some ⟨C.vb, 0, none⟩) (C.n + 1) (C.n + 1)) (fun h2 e => Rd_ld sc_Sl_int8 (by rw [hcell_row (e.trans r')]; rfl)) ?_⟩
    rw [qix_Sl_int8 hjn, Nat.zero_add, Nat.mul_one]
    have hv' : row h' C.vb = some (vs.map J) := W'.vals
    refine sem_st1 ti_int8 hv' (by simp; omega) rfl ?_
    simp only [rd_add]
    rw [wrap_succ (by omega)]
    have hF : ∀ b ∈ [C.vb], κ b = .vals := fun b hb => by simp at hb; subst hb; exact W.kv
    have e2 : (vs.map J).set j (.int .i8 0) = (vs.set j 0).map J := by rw [List.map_set]
    rw [e2]
    have f : Fr2 h' (hput h' C.vb ((vs.set j 0).map J)) [C.vb] := (Fr2.refl _ _).put (.inl (by simp))
    have hwv : C.w ∉ [C.vb] := fun hb => by have := hF _ hb; rw [W.kw] at this; cases this
    have ht2 : Own (hput h' C.vb ((vs.set j 0).map J)) 1 (.slice ta S.trail.length tc) tb (S.trail.map I) := t'.frame f fun b hb hb' => by have := hF _ hb'; rw [tk b hb] at this; cases this
    refine hk' _ _ ⟨i + 1, vs.set j 0, rfl, hlt', ?_, N'.trans (Nx.of f (Ext.refl _ _) fun b hb hfre => ?_), ?_, ht2, by simpa using hvl, fun q x hq => ?_, ?_⟩ (by simp only [iv, Int.toNat_natCast]; omega)
    · refine WI.trailUpd (S' := { S with vals := vs.set j 0 }) (F := [C.vb]) (tv' := .slice ta S.trail.length tc) W' f (fun b hb => .inr (.inl (hF b hb))) (Ext.refl _ _) (fun b hb => by rw [size_hput] at hb; exact W'.fresh b hb) (fun b hb e => by rw [W'.fresh b hb] at e; cases e) (fun tv0 sv0 lo0 e0 => ?_) ⟨tb, ht2, tk⟩ (hput_same hv') rfl rfl rfl rfl
      have e4 : row h' C.w = _ := e0
      rw [r'] at e4
      injection e4 with e4
      injection e4 with _ e4
      injection e4 with _ e4
      injection e4 with e5 e4
      injection e4 with _ e4
      injection e4 with _ e4
      injection e4 with e6 e4
      subst e5 e6
      exact f.row r' hwv
    · rw [hF b hb] at hfre
      rcases hfre with hfre | ⟨_, _, hfre⟩ <;> cases hfre
    · rw [f.row r' hwv, c1]
    · rw [List.getElem?_set] at hq
      split at hq
      · split at hq
        · injection hq with hq; exact .inl hq.symm
        · cases hq
      · exact hvs q x hq
    · have := zeros_set_le vs j 0; omega
  · have hie : i = S.trail.length - n := by have : ¬ (i < S.trail.length - n) := by simp at hge; omega
                                            omega
    simp only [rd_ldr r' sc_Sl_int, rd_ldr r' sc_int, List.getElem?_cons_zero, List.getElem?_cons_succ, optK_some]
    rw [rd_sl_hi el_Sl_int hnc hta]
    refine sem_st1 ti_Sl_int r' (by simp) rfl ?_
    simp only [List.set_cons_succ, List.set_cons_zero]
    obtain ⟨a9, m9, c9, e9, hnc9, hta9, ot9⟩ := own_take t' (n := n) (by rw [List.length_map]; exact hn)
    injection e9 with e91 e92 e93
    subst e91 e93
    have f : ∀ l, Fr2 h' (hput h' C.w l) [C.w] := fun l => (Fr2.refl _ _).put (.inl (by simp))
    have hF : ∀ b ∈ [C.w], κ b = .watch := fun b hb => by simp at hb; subst hb; exact W.kw
    have hnF : ∀ (l : List Value) (b : Nat), b ∈ [C.w] → ¬ Fre none (κ b) := fun l b hb hfre => by
      rw [hF b hb] at hfre
      rcases hfre with hfre | ⟨_, _, hfre⟩ <;> cases hfre
    have W3 : WI C κ none { S with vals := vs, trail := S.trail.take n } (hput h' C.w [.slice (some ⟨C.vb, 0, none⟩) (C.n + 1) (C.n + 1), .slice ta n tc, sv, I S.head, .slice (some ⟨C.lb, 0, none⟩) (2 * C.n) (2 * C.n), lo, .bool S.rest, .bool S.clash]) := by
      refine WI.trailUpd (S' := { S with vals := vs, trail := S.trail.take n }) (F := [C.w]) (tv' := .slice ta n tc) W' (f _) (fun b hb => .inl (hF b hb)) (Ext.refl _ _) (fun b hb => by rw [size_hput] at hb; exact W'.fresh b hb) (fun b hb e => by rw [W'.fresh b hb] at e; cases e) (fun tv0 sv0 lo0 e0 => ?_) ⟨tb, ?_, tk⟩ ((f _).row W'.vals (fun hb => by have := hF _ hb; rw [W.kv] at this; cases this)) rfl rfl rfl rfl
      · have e4 : row h' C.w = _ := e0
        rw [r'] at e4
        injection e4 with e4
        injection e4 with _ e4
        injection e4 with _ e4
        injection e4 with e5 e4
        injection e4 with _ e4
        injection e4 with _ e4
        injection e4 with e6 e4
        subst e5 e6
        exact hput_same r'
      · show Own _ 1 _ tb ((S.trail.take n).map I)
        rw [List.map_take]
        exact ot9.frame (f _) fun b hb hb' => by have := hF _ hb'; rw [tk b hb] at this; cases this
    have r3 : row (hput h' C.w [.slice (some ⟨C.vb, 0, none⟩) (C.n + 1) (C.n + 1), .slice ta n tc, sv, I S.head, .slice (some ⟨C.lb, 0, none⟩) (2 * C.n) (2 * C.n), lo, .bool S.rest, .bool S.clash]) C.w = _ := hput_same r'
    have N3 : Nx none h' κ (hput h' C.w [.slice (some ⟨C.vb, 0, none⟩) (C.n + 1) (C.n + 1), .slice ta n tc, sv, I S.head, .slice (some ⟨C.lb, 0, none⟩) (2 * C.n) (2 * C.n), lo, .bool S.rest, .bool S.clash]) κ := Nx.of (f _) (Ext.refl _ _) (hnF [])
    generalize hput h' C.w [.slice (some ⟨C.vb, 0, none⟩) (C.n + 1) (C.n + 1), .slice ta n tc, sv, I S.head, .slice (some ⟨C.lb, 0, none⟩) (2 * C.n) (2 * C.n), lo, .bool S.rest, .bool S.clash] = h3 at W3 r3 N3
    simp only [rd_ldr r3 sc_int, List.getElem?_cons_zero, List.getElem?_cons_succ, optK_some, rd_min]
    have emin : min (S.head : Int) (n : Int) = ((min S.head n : Nat) : Int) := by omega
    rw [emin]
    refine sem_st1 ti_int r3 (by simp) rfl ?_
    simp only [List.set_cons_succ, List.set_cons_zero]
    obtain ⟨W4, N4, r4⟩ := WI.scal (min S.head n) S.rest S.clash W3 r3
    have hzz := V.tz
    refine hk _ κ vs W4 ?_ (N'.trans (N3.trans N4))
    constructor
    · exact hvl
    · intro x hx
      obtain ⟨q, hq⟩ := List.mem_iff_getElem?.1 hx
      rcases hvs q x hq with rfl | h
      · exact .inr (.inl rfl)
      · exact V.three x (List.mem_of_getElem? h)
    · intro v hv0 hv1
      rcases hvs v _ hv1 with h | h
      · cases h
      · exact V.pos v hv0 h
    · intro v hv0 hv1
      rcases hvs v _ hv1 with h | h
      · cases h
      · exact V.neg v hv0 h
    · intro l hl
      exact V.tr l (List.mem_of_mem_take hl)
    · show (S.trail.take n).length + zeros vs ≤ _
      rw [List.length_take]; omega
    · show min S.head n ≤ (S.trail.take n).length
      rw [List.length_take]; omega
    · exact V.st.sublist List.filter_sublist
    · intro s hs
      have := (List.mem_filter.1 hs).2
      show s < (S.trail.take n).length
      simp at this
      rw [List.length_take]; omega
    · exact V.n20
    · exact V.kb
    · exact V.sum
    · exact V.ll
theorem rise_len : ∀ (l : List Nat) (m n : Nat), l.Pairwise (· < ·) → (∀ s ∈ l, m ≤ s ∧ s < n) → l.length ≤ n - m
  | [], _, _, _, _ => Nat.zero_le _
  | a :: l, m, n, hp, hs => by
    have hp' := List.pairwise_cons.1 hp
    have h1 := hs a (by simp)
    have := rise_len l (a + 1) n hp'.2 (fun s h => ⟨hp'.1 s h, (hs s (by simp [h])).2⟩)
    simp; omega
theorem filter_last : ∀ {l : List Nat}, l.Pairwise (· < ·) → ∀ {m : Nat}, l.length = m + 1 → ∀ {x : Nat}, l[m]? = some x → (l.filter fun s => decide (s < x)) = l.take m
  | [], _, _, h, _, _ => by simp at h
  | a :: l, hp, 0, h, x, hx => by
    simp at hx h; subst hx h
    simp
  | a :: l, hp, m + 1, h, x, hx => by
    have hp' := List.pairwise_cons.1 hp
    have hx' : l[m]? = some x := by simpa using hx
    have := hp'.1 x (List.mem_of_getElem? hx')
    rw [List.filter_cons_of_pos (by simpa using this), filter_last hp'.2 (by simpa using h) hx', List.take_succ_cons]
/-- Assumptions: another list of them. -/
theorem WI.startsUpd {C : WC} {κ κ' : Nat → Kind} {S : WS} {h h' : Heap} {F : List Nat} {tv sv sv' lo A B : Value} {ss : List Nat} (W : WI C κ none S h) (hr : row h C.w = some [A, tv, sv, I S.head, B, lo, .bool S.rest, .bool S.clash]) (f : Fr2 h h' F) (hF : ∀ b ∈ F, κ b = .watch ∨ κ b = .starts) (hκ : Ext h κ κ')
    (hfr : ∀ b, h'.size ≤ b → κ' b = .none) (hnew : ∀ b, h.size ≤ b → κ' b ≠ .held)
    (hc : row h' C.w = some [A, tv, sv', I S.head, B, lo, .bool S.rest, .bool S.clash]) (ho : OwnK h' κ' .starts sv' (ss.map fun s => I (s : Nat))) : WI C κ' none { S with starts := ss } h' := by
  obtain ⟨tv', sv2, lo2, h1, h2, h3, h4, h5, hlo⟩ := W.cells
  rw [hr] at h1
  injection h1 with h1
  injection h1 with e1 h1
  injection h1 with e2 h1
  injection h1 with e3 h1
  injection h1 with _ h1
  injection h1 with e4 h1
  injection h1 with e5 h1
  subst e1 e2 e3 e4 e5
  obtain ⟨lvs, l1, l2, l3⟩ := W.lists
  have ne : ∀ k : Kind, k ≠ .watch → k ≠ .starts → ∀ b ∈ F, κ b ≠ k := fun k a b x hx e => by
    rcases hF x hx with h | h <;> rw [h] at e <;> first | exact a e.symm | exact b e.symm
  have hheld : ∀ x, κ x = .held → κ' x = .held := fun x hx => by rw [hκ x (W.lt (by rw [hx]; nofun))]; exact hx
  refine ⟨?_, ?_, ?_, hfr, ⟨tv, sv', lo, hc, h2.frame f (ne .trail nofun nofun) hκ, ho, h4.frame f (ne .loose nofun nofun) hκ, fun x hx => hheld x (h5 x hx), hlo⟩, f.row W.vals (fun hb => ne .vals nofun nofun _ hb W.kv), ⟨lvs, f.row l1 (fun hb => ne .lists nofun nofun _ hb W.kl), l2, fun j hj hho => ?_⟩, fun x hx => ?_⟩
  · rw [hκ _ (W.lt (by rw [W.kw]; nofun))]; exact W.kw
  · rw [hκ _ (W.lt (by rw [W.kv]; nofun))]; exact W.kv
  · rw [hκ _ (W.lt (by rw [W.kl]; nofun))]; exact W.kl
  · obtain ⟨v, hs2, a1, a2, a3, a4⟩ := l3 j hj hho
    exact ⟨v, hs2, a1, a2.frame f (ne (.list j) nofun nofun) hκ, fun x hx => hheld x (a3 x hx), a4⟩
  · rcases Nat.lt_or_ge x h.size with hx' | hx'
    · have hx2 : κ x = .held := by rw [← hκ x hx']; exact hx
      exact (W.helds x hx2).frame f (fun hb => ne .held nofun nofun _ hb hx2) (ne .lits nofun nofun) hκ
    · exact absurd hx (hnew x hx')
theorem nfre_watch {C : WC} {κ : Nat → Kind} {o : Option Nat} (hw : κ C.w = .watch) : ∀ b ∈ [C.w], ¬ Fre o (κ b) := fun b hb hfre => by
  simp at hb; subst hb; rw [hw] at hfre
  rcases hfre with hfre | ⟨_, _, hfre⟩ <;> cases hfre
/-- The last assumption is taken back, and what came since. -/
theorem k_Undo {C : WC} {κ : Nat → Kind} {S : WS} {h : Heap} (W : WI C κ none S h) (V : VS C S) {Q : Value → Heap → Prop}
    (hk : ∀ r h' κ' S', WI C κ' none S' h' → VS C S' → Nx none h κ h' κ' → S'.K = S.K → Q (I r) h') : callF P F.watch_Watch_Undo [pt C.w] h Q := by
  refine ok_watch_Watch_Undo ?_
  obtain ⟨tv, sv, lo, c1, c2, ⟨sb, s1, sk⟩, _⟩ := W.cells
  have hlen : (S.starts.map fun s => I (s : Nat)).length = S.starts.length := List.length_map _
  obtain ⟨sa, scp, rfl, hgs⟩ := Src.form s1.src
  have hsb : S.starts.length ≤ S.trail.length := rise_len S.starts 0 _ V.st (fun s hs => ⟨Nat.zero_le _, V.sl s hs⟩)
  have htz := V.tz
  have hn20 := V.n20
  unfold t_watch_Watch_Undo
  simp only [okNil_ptr, true_and, fa_watch_Watch_starts, fa_watch_Watch_rest, Nat.zero_add, rd_ldr c1 sc_Sl_int, List.getElem?_cons_zero, List.getElem?_cons_succ, optK_some, hlen, ln_Sl_int, rd_sub, rd_lss, br_bool]
  rw [wrap_in (by omega) (by omega)]
  refine ⟨fun _ => hk 3 h κ S W V (Nx.refl _ _ _) rfl, fun hge => ?_⟩
  have hpos : 0 < S.starts.length := by simp at hge; omega
  have e1 : (S.starts.length : Int) - 1 = ((S.starts.length - 1 : Nat) : Int) := by omega
  obtain ⟨bq, oq, rfl, hcq⟩ := hgs (S.starts.length - 1) (by rw [hlen]; omega)
  have hlt : S.starts.length - 1 < S.starts.length := by omega
  have hget : S.starts[S.starts.length - 1]? = some (S.starts[S.starts.length - 1]'hlt) := List.getElem?_eq_getElem hlt
  rw [e1, ix_Sl_int hlt, Nat.mul_one, rd_ld hcq sc_int]
  simp only [List.getElem_map]
  have hsl := V.sl _ (List.getElem_mem hlt)
  generalize S.starts[S.starts.length - 1]'hlt = st at *
  refine k_cut W V (Nat.le_of_lt hsl) fun h1 κ1 vs W1 V1 N1 => ?_
  rw [filter_last V.st (m := S.starts.length - 1) (by omega) hget] at V1
  obtain ⟨tv', sv', lo', d1, d2, ⟨sb', u1, uk⟩, d4, d5, dlo⟩ := W1.cells
  obtain ⟨ua, um, uc, rfl, hnc, hua, ou⟩ := own_take u1 (n := S.starts.length - 1) (by rw [hlen]; omega)
  have hum : um = S.starts.length := by
    obtain ⟨a', c', e⟩ := own_form u1
    injection e with _ e _
    rw [e, hlen]
  subst hum
  simp only [rd_ldr d1 sc_Sl_int, List.getElem?_cons_zero, List.getElem?_cons_succ, optK_some]
  rw [rd_sl_hi el_Sl_int hnc hua]
  refine sem_st1 ti_Sl_int d1 (by simp) rfl ?_
  simp only [List.set_cons_succ, List.set_cons_zero]
  have f : ∀ l, Fr2 h1 (hput h1 C.w l) [C.w] := fun l => (Fr2.refl _ _).put (.inl (by simp))
  have hFk : ∀ b ∈ [C.w], κ1 b = .watch := fun b hb => by simp at hb; subst hb; exact W1.kw
  have W2 := W1.startsUpd (ss := S.starts.take (S.starts.length - 1)) d1 (f [.slice (some ⟨C.vb, 0, none⟩) (C.n + 1) (C.n + 1), tv', .slice ua (S.starts.length - 1) uc, I ((min S.head st : Nat) : Int), .slice (some ⟨C.lb, 0, none⟩) (2 * C.n) (2 * C.n), lo', .bool S.rest, .bool S.clash]) (fun b hb => .inl (hFk b hb)) (Ext.refl _ _) (fun b hb => by rw [size_hput] at hb; exact W1.fresh b hb) (fun b hb e => by rw [W1.fresh b hb] at e; cases e) (hput_same d1) ⟨sb', (by
    rw [List.map_take]
    exact ou.frame (f _) fun b hb hb' => (by have := hFk _ hb'; rw [uk b hb] at this; cases this)), uk⟩
  have r2 : row (hput h1 C.w [.slice (some ⟨C.vb, 0, none⟩) (C.n + 1) (C.n + 1), tv', .slice ua (S.starts.length - 1) uc, I ((min S.head st : Nat) : Int), .slice (some ⟨C.lb, 0, none⟩) (2 * C.n) (2 * C.n), lo', .bool S.rest, .bool S.clash]) C.w = _ := hput_same d1
  have N2 : Nx none h1 κ1 (hput h1 C.w [.slice (some ⟨C.vb, 0, none⟩) (C.n + 1) (C.n + 1), tv', .slice ua (S.starts.length - 1) uc, I ((min S.head st : Nat) : Int), .slice (some ⟨C.lb, 0, none⟩) (2 * C.n) (2 * C.n), lo', .bool S.rest, .bool S.clash]) κ1 := Nx.of (f _) (Ext.refl _ _) (nfre_watch W1.kw)
  generalize hput h1 C.w [.slice (some ⟨C.vb, 0, none⟩) (C.n + 1) (C.n + 1), tv', .slice ua (S.starts.length - 1) uc, I ((min S.head st : Nat) : Int), .slice (some ⟨C.lb, 0, none⟩) (2 * C.n) (2 * C.n), lo', .bool S.rest, .bool S.clash] = h2 at W2 r2 N2
  refine sem_st1 ti_bool r2 (by simp) rfl ?_
  simp only [List.set_cons_succ, List.set_cons_zero]
  obtain ⟨W3, N3, _⟩ := WI.scal (min S.head st) false S.clash W2 r2
  exact hk 0 _ κ1 _ W3 { V1 with } (N1.trans (N2.trans N3)) rfl
end Go.Proofs.Ytihbhklcnbdijaa
