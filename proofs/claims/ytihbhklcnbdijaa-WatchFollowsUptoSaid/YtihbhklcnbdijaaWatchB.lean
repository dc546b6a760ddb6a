/- The walk: watch, what moves. -/
import Derived.Test.YtihbhklcnbdijaaWatch
set_option linter.unusedSimpArgs false
set_option linter.unusedVariables false
namespace Go.Proofs.Ytihbhklcnbdijaa
open Go

theorem VS.false {C : WC} {S : WS} (V : VS C S) {l : Int} (h0 : l ≠ 0) (hl : inR C.n l) (hv : valOf S.vals l = -1) : tru C.m l = false := by
  have hlen := V.len
  unfold inR at hl
  unfold valOf at hv
  by_cases hn : l < 0
  · simp only [hn, if_true] at hv
    have hg : S.vals[(-l).toNat]? = some 1 := by
      rw [List.getD_eq_getElem?_getD, List.getElem?_eq_getElem (by omega), Option.getD_some] at hv
      rw [List.getElem?_eq_getElem (by omega)]; congr 1; omega
    have := V.pos _ (by omega) hg
    rw [show (((-l).toNat : Nat) : Int) = -l by omega, tru_neg h0] at this
    simpa using this
  · simp only [hn, if_false] at hv
    have hg : S.vals[l.toNat]? = some (-1) := by
      rw [List.getD_eq_getElem?_getD, List.getElem?_eq_getElem (by omega), Option.getD_some] at hv
      rw [List.getElem?_eq_getElem (by omega)]; congr 1
    have := V.neg _ (by omega) hg
    rw [show ((l.toNat : Nat) : Int) = l by omega, tru_neg h0] at this
    simpa using this
theorem ub_ari : P.eqGuardType P.depth T.Ar2_int = false := by kernel_rfl
theorem ui_int : P.underlying T.int = some (.int .i64) := by kernel_rfl
/-- The other eye. -/
def oth (l a b : Int) : Int := if a = l then b else a
theorem k_moved {C : WC} {κ : Nat → Kind} {o : Option Nat} {S : WS} {h : Heap} {x : Nat} {l : Int} (W : WI C κ o S h) (V : VS C S) (hx : κ x = .held) (hex : 1 ≤ S.ex) (h0 : l ≠ 0) (hl : inR C.n l) (hv : tru C.m l = false) (hho : ∀ i : Nat, some i = o → ixOf l = i) {Q : Value → Heap → Prop}
    (hk1 : ∀ h' κ' L, WI C κ' o { S with lens := L, ex := S.ex - 1 } h' → VS C { S with lens := L, ex := S.ex - 1 } → Nx o h κ h' κ' → Q (.bool true) h')
    (hk2 : ∀ lv a b, row h x = some [lv, I a, I b] → inR C.n (oth l a b) → (valOf S.vals (oth l a b) = 1 ∨ (oth l a b ≠ 0 ∧ tru C.m (oth l a b) = true)) → Q (.bool false) h) : callF P F.watch_Watch_moved [pt C.w, pt x, I l] h Q := by
  refine ok_watch_Watch_moved ?_
  obtain ⟨lv, ls, a, b, h1, ⟨lbs, h2, h2k⟩, h3, h4, h5, h6, h7⟩ := W.helds x hx
  have hI : Ints h lv ls := h2.src
  obtain ⟨la, lc, rfl, hg⟩ := hI.form
  have z0 : (.int .i64 0 : Value) = I ((0 : Nat) : Int) := rfl
  have z1 : (.int .i64 1 : Value) = I ((1 : Nat) : Int) := rfl
  unfold t_watch_Watch_moved
  simp only [okNil_ptr, true_and, fa_watch_held_at, fa_watch_held_lits, Nat.zero_add]
  rw [z0, rd_ixa ar_Ar2_int (show 0 < 2 by omega), rd_ldr h1 sc_int]
  simp only [Nat.zero_mul, Nat.add_zero, List.getElem?_cons_zero, List.getElem?_cons_succ, optK_some]
  have hob : inR C.n (oth l a b) := by unfold oth; split <;> assumption
  refine jn_intro fun K hK => ?_
  have key : K (I (oth l a b)) h := by
    rw [hK]
    generalize hot : oth l a b = ot at *
    rw [k_of W V hob]
    simp only [rd_eql, br_bool]
    refine ⟨fun hone => ?_, fun hone => ?_⟩
    · exact hk2 _ a b h1 (hot ▸ hob) (.inl (by rw [hot]; simpa using hone))
    have hone' : valOf S.vals ot ≠ 1 := by simpa using hone
    rw [rd_ldr h1 sc_Sl_int]
    simp only [List.getElem?_cons_zero, optK_some, ln_Sl_int]
    refine lp1_of (fun z h' => h' = h ∧ ∃ i : Nat, z = I i ∧ i ≤ ls.length ∧ ∀ y ∈ ls.take i, y = ot ∨ y = l ∨ valOf S.vals y < 0) (fun z _ => ls.length - iv z) ⟨rfl, 0, rfl, Nat.zero_le _, by simp⟩ ?_
    rintro z g h' ⟨rfl, i, rfl, hi, hall⟩ k hk
    simp only [rd_lss, br_bool]
    refine ⟨fun hlt => ?_, fun hge => ?_⟩
    · have hlt' : i < ls.length := by simpa using hlt
      have hm := List.getElem_mem hlt'
      obtain ⟨y0, yR⟩ := h3 _ hm
      have hnext : (ls[i] = ot ∨ ls[i] = l ∨ valOf S.vals ls[i] < 0) → k [I ((i + 1 : Nat) : Int)] h' := fun hy => by
        refine hk _ _ ⟨rfl, i + 1, rfl, hlt', fun y hy' => ?_⟩ (by simp only [iv, Int.toNat_natCast]; omega)
        rw [List.take_succ_eq_append_getElem hlt'] at hy'
        rcases List.mem_append.1 hy' with h | h
        · exact hall y h
        · simp at h; subst h; exact hy
      rw [ints_el hg hlt']
      generalize ls[i] = y at *
      simp only [rd_neq]
      by_cases c1 : y = ot
      · have b1 : (y != ot) = false := by simpa using c1
        simp only [b1, isB_tt, isB_tf, isB_ft, isB_ff, gq_true, gq_false, gd_true, gd_false, ex_bool, cond_true, cond_false, br_bool, rd_add]
        rw [wrap_succ (by omega)]
        exact ⟨nofun, fun _ => hnext (.inl c1)⟩
      have b1 : (y != ot) = true := by simpa using c1
      by_cases c2 : y = l
      · have b2 : (y != l) = false := by simpa using c2
        simp only [b1, b2, isB_tt, isB_tf, isB_ft, isB_ff, gq_true, gq_false, gd_true, gd_false, ex_bool, cond_true, cond_false, br_bool, rd_add, rd_neq]
        rw [wrap_succ (by omega)]
        exact ⟨nofun, fun _ => hnext (.inr (.inl c2))⟩
      have b2 : (y != l) = true := by simpa using c2
      simp only [b1, b2, isB_tt, isB_tf, isB_ft, isB_ff, gq_true, gq_false, gd_true, gd_false, ex_bool, cond_true, cond_false, br_bool, rd_add, rd_neq, k_of W V yR, rd_geq]
      refine ⟨fun hge => ?_, fun hlt => ?_⟩
      · rw [bd_Ar2_int_0_1 rfl rfl]
        refine sem_st ti_Ar2_int h1 rfl (by simp) (by intro v hv; simp [cells_agg] at hv; rcases hv with rfl | rfl <;> rfl) ?_
        have e3 : lput [Value.slice la ls.length lc, I a, I b] 1 (Value.agg #[I ot, I y]).cells.toList = [Value.slice la ls.length lc, I ot, I y] := rfl
        rw [e3]
        have W2 : WI C κ o S (hput h' x [Value.slice la ls.length lc, I ot, I y]) := W.heldUpd hx h1 ⟨lbs, h2, h2k⟩ h3 h4 hob yR h7
        have N2 : Nx o h' κ (hput h' x [Value.slice la ls.length lc, I ot, I y]) κ := Nx.of (F := [x]) ((Fr2.refl _ _).put (.inl (by simp))) (Ext.refl _ _) fun b hb hfre => by
          simp at hb; subst hb
          rw [hx] at hfre
          rcases hfre with hfre | ⟨_, _, hfre⟩ <;> cases hfre
        refine push W2 V y0 yR (fun i hi hoi => ?_) hx hex fun h3 κ3 L3 W3 V3 E3 => hk1 _ _ _ W3 V3 (N2.trans E3)
        have e1 := hho i hoi
        have hn := V.n20
        unfold inR at yR hl
        exact c2 (ixOf_inj (formed_iff.2 ⟨y0, by omega, by omega⟩) (formed_iff.2 ⟨h0, by omega, by omega⟩) (by rw [hi, e1]))
      · rw [wrap_succ (by omega)]
        exact hnext (.inr (.inr (by simpa using hlt)))
    · have : i = ls.length := by have : ¬ (i < ls.length) := by simpa using hge
                                 omega
      subst this
      rw [List.take_length] at hall
      obtain ⟨t, ht, htt⟩ := List.any_eq_true.1 h4
      have ht3 := h3 t ht
      have : t = ot := by
        rcases hall t ht with e | e | e
        · exact e
        · subst e; rw [hv] at htt; cases htt
        · have := valOf_in V t
          rw [V.false ht3.1 ht3.2 (by omega)] at htt; cases htt
      subst this
      exact hk2 _ a b h1 (hot ▸ hob) (.inr (by rw [hot]; exact ⟨ht3.1, htt⟩))
  have r1 : ∀ {k : Value → Prop}, (rd P h (Instr.indexAt T.Ar2_int (.pointer (some ⟨x, 1, none⟩)) (.int .i64 1)) fun t => rd P h (Instr.loadAt T.int t) k) = k (I b) := fun {k} => by
    rw [z1, rd_ixa ar_Ar2_int (show 1 < 2 by omega), Nat.one_mul, rd_ldr h1 sc_int]; rfl
  rw [z1, rd_ixa ar_Ar2_int (show 1 < 2 by omega), Nat.one_mul, rd_lda (l := [I a, I b]) ag_Ar2_int (hcells_row h1 2 1 (by simp)), rd_ldr h1 sc_int]
  simp only [List.getElem?_cons_zero, List.getElem?_cons_succ, optK_some]
  rw [bd_Ar2_int_0_1 rfl rfl, rd_eq2 ua_Ar2_int ui_int sz_int ub_ari]
  rw [rd_ixa ar_Ar2_int (show 1 < 2 by omega), Nat.one_mul, rd_ldr h1 sc_int]
  simp only [List.getElem?_cons_zero, List.getElem?_cons_succ, optK_some, br_bool]
  refine ⟨fun he => ?_, fun he => ?_⟩
  · have : a = l := by simp at he; exact he
    have e : oth l a b = b := by simp [oth, this]
    rw [e] at key; exact key
  · have : ¬ a = l := by simpa using he
    have e : oth l a b = a := by simp [oth, this]
    rw [e] at key; exact key
end Go.Proofs.Ytihbhklcnbdijaa
