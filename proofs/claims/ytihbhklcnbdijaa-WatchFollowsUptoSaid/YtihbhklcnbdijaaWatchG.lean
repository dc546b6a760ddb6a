/- The walk: watch, clauses that come in, and New. -/
import Derived.Test.YtihbhklcnbdijaaWatchF
set_option linter.unusedSimpArgs false
set_option linter.unusedVariables false
namespace Go.Proofs.Ytihbhklcnbdijaa
open Go

theorem k_within_w {C : WC} {κ : Nat → Kind} {S : WS} {h : Heap} (W : WI C κ none S h) (V : VS C S) {v : Value} {xs : List Int} (hx : Ints h v xs) (hn : xs.length < 4611686018427387904) {Q : Value → Heap → Prop}
    (hk : ∀ r : Bool, (r = true → ∀ l ∈ xs, l ≠ 0 ∧ inR C.n l) → Q (.bool r) h) : callF P F.watch_Watch_within [pt C.w, v] h Q := by
  refine ok_watch_Watch_within ?_
  obtain ⟨tv, sv, lo, c1, _⟩ := W.cells
  have hn20 := V.n20
  obtain ⟨a, c, rfl, hg⟩ := hx.form
  unfold t_watch_Watch_within
  simp only [ln_Sl_int]
  refine lp1_of (fun z h' => h' = h ∧ ∃ i : Nat, z = I i ∧ i ≤ xs.length ∧ ∀ l ∈ xs.take i, l ≠ 0 ∧ inR C.n l) (fun z _ => xs.length - iv z) ⟨rfl, 0, rfl, Nat.zero_le _, by simp⟩ ?_
  rintro z g h' ⟨rfl, i, rfl, hi, hall⟩ k hk'
  simp only [rd_lss, br_bool]
  refine ⟨fun hlt => ?_, fun hge => ?_⟩
  · have hlt' : i < xs.length := by simpa using hlt
    have htk : ∀ (p : Int → Prop), (∀ y ∈ xs.take i, p y) → p xs[i] → ∀ y ∈ xs.take (i + 1), p y := fun p h1 h2 y hy => by
      rw [List.take_succ_eq_append_getElem hlt'] at hy
      rcases List.mem_append.1 hy with h | h
      · exact h1 y h
      · simp at h; subst h; exact h2
    rw [ints_el hg hlt']
    generalize xs[i] = y at *
    simp only [r_Formed, rd_not]
    cases hf : formed y with
    | false =>
      simp only [Bool.not_false, isB_tt, isB_tf, isB_ft, isB_ff, gq_true, gq_false, ex_bool, cond_true, cond_false, br_bool]
      exact ⟨fun _ => hk false nofun, nofun⟩
    | true =>
      have hf' := formed_iff.1 hf
      simp only [Bool.not_true, isB_tt, isB_tf, isB_ft, isB_ff, gq_true, gq_false, ex_bool, cond_true, cond_false, r_Var, okNil_ptr, true_and, fa_watch_Watch_value, Nat.zero_add, rd_ldr c1 sc_Sl_int8, List.getElem?_cons_zero, optK_some, ln_Sl_int8, rd_geq, br_bool, rd_add]
      rw [wrap_succ (by omega)]
      refine ⟨fun _ => hk false nofun, fun hlt2 => hk' _ _ ⟨rfl, i + 1, rfl, hlt', htk _ hall ⟨hf'.1, ?_⟩⟩ (by simp only [iv, Int.toNat_natCast]; omega)⟩
      have h2 : ¬ ((C.n + 1 : Nat) : Int) ≤ varOf y := by simpa using hlt2
      unfold inR
      simp only [varOf, hf, if_true] at h2
      split at h2 <;> omega
  · have : i = xs.length := by have : ¬ (i < xs.length) := by simpa using hge
                               omega
    subst this
    rw [List.take_length] at hall
    exact hk true fun _ => hall
/-- A new clause. -/
theorem WI.newHeld {C : WC} {κ : Nat → Kind} {S : WS} {h h2 h3 : Heap} {lv : Value} {bs : List Nat} {ls : List Int} {t : TypeId} (W : WI C κ none S h) (f2 : Fr2 h h2 []) (ho : Own h2 1 lv bs (ls.map I)) (hb : ∀ b ∈ bs, h.size ≤ b) (e : h3 = hnew h2 [lv, I 0, I 0] t) (hl : ∀ l ∈ ls, l ≠ 0 ∧ inR C.n l) (hh : hld C.m ls = true) (hn : ls.length < 2199023255551) :
    ∃ κ', WI C κ' none S h3 ∧ Nx none h κ h3 κ' ∧ κ' h2.size = .held := by
  subst e
  have f3 : Fr2 h2 (hnew h2 [lv, I 0, I 0] t) [] := (Fr2.refl _ _).new
  have f : Fr2 h (hnew h2 [lv, I 0, I 0] t) [] := f2.trans f3 (by simp)
  have W3 := W.keep f
  have hne : ∀ b ∈ bs, b ≠ h2.size := fun b hb' => by have := ho.lt b hb'; omega
  have hs : (hnew h2 [lv, I 0, I 0] t).size = h2.size + 1 := size_hnew _ _ _
  have hs2 := f2.size
  refine ⟨fun b => if b = h2.size then .held else if b ∈ bs then .lits else κ b, ?_, Nx.of f (fun b hb' => ?_) (by simp), if_pos rfl⟩
  · have old : ∀ b, κ b ≠ .none → (if b = h2.size then Kind.held else if b ∈ bs then .lits else κ b) = κ b := fun b hb' => by
      have := W.lt hb'
      rw [if_neg (by omega), if_neg (fun hh => by have := hb b hh; omega)]
    have oldK : ∀ {k v xs}, OwnK (hnew h2 [lv, I 0, I 0] t) κ k v xs → k ≠ .none → OwnK (hnew h2 [lv, I 0, I 0] t) (fun b => if b = h2.size then Kind.held else if b ∈ bs then .lits else κ b) k v xs := fun ⟨q, q1, q2⟩ hk => ⟨q, q1, fun b hb' => by
      show (if b = h2.size then Kind.held else if b ∈ bs then .lits else κ b) = _
      rw [old b (by rw [q2 b hb']; exact hk)]; exact q2 b hb'⟩
    obtain ⟨tv, sv, lo, c1, c2, c3, c4, c5, clo⟩ := W3.cells
    obtain ⟨lvs, l1, l2, l3⟩ := W3.lists
    refine ⟨?_, ?_, ?_, fun b hb' => ?_, ⟨tv, sv, lo, c1, oldK c2 nofun, oldK c3 nofun, oldK c4 nofun, fun x hx => ?_, clo⟩, W3.vals, ⟨lvs, l1, l2, fun i hi hho => ?_⟩, fun x hx => ?_⟩
    · show (if _ then _ else _) = _; rw [old _ (by rw [W.kw]; nofun)]; exact W.kw
    · show (if _ then _ else _) = _; rw [old _ (by rw [W.kv]; nofun)]; exact W.kv
    · show (if _ then _ else _) = _; rw [old _ (by rw [W.kl]; nofun)]; exact W.kl
    · show (if _ then _ else _) = _
      rw [if_neg (by omega), if_neg (fun hh => by have := ho.lt b hh; omega)]
      exact W.fresh b (by omega)
    · show (if _ then _ else _) = _; rw [old _ (by rw [c5 x hx]; nofun)]; exact c5 x hx
    · obtain ⟨v, hs2, a1, a2, a3, a4⟩ := l3 i hi hho
      exact ⟨v, hs2, a1, oldK a2 nofun, fun x hx => by show (if _ then _ else _) = _; rw [old _ (by rw [a3 x hx]; nofun)]; exact a3 x hx, a4⟩
    · by_cases ex : x = h2.size
      · subst ex
        refine ⟨lv, ls, 0, 0, row_hnew_new, ⟨bs, ho.frame f3 (by simp), fun b hb' => ?_⟩, hl, hh, ?_, ?_, hn⟩
        · show (if _ then _ else _) = _; rw [if_neg (hne b hb'), if_pos hb']
        · unfold inR; omega
        · unfold inR; omega
      · have hx' : (if x = h2.size then Kind.held else if x ∈ bs then .lits else κ x) = .held := hx
        rw [if_neg ex] at hx'
        have hx2 : κ x = .held := by split at hx' <;> first | exact hx' | cases hx'
        obtain ⟨lv2, ls2, a, b, q1, q2, q3⟩ := W3.helds x hx2
        exact ⟨lv2, ls2, a, b, q1, oldK q2 nofun, q3⟩
  · rw [if_neg (by omega), if_neg (fun hh => by have := hb b hh; omega)]
/-- A clause is laid to those that are gone through whole. -/
theorem loosePush {C : WC} {κ : Nat → Kind} {S : WS} {h : Heap} {x : Nat} (W : WI C κ none S h) (V : VS C S) (hx : κ x = .held) (hex : 2 ≤ S.ex) {k : Heap → Prop}
    (hk : ∀ h' κ' S', WI C κ' none S' h' → VS C S' → Nx none h κ h' κ' → S'.K = S.K → k h') :
    rd P h (Instr.fieldAt T.watch_Watch (pt C.w) 5) fun t23 => rd P h (Instr.loadAt T.Sl_P_watch_held t23) fun t24 => sem P (Instr.buildSlice T.Sl_P_watch_held 1 #[(0, pt x)]) h fun t26 h7 => sem P (Builtin.append_ #[T.Sl_P_watch_held, T.Sl_P_watch_held] T.Sl_P_watch_held #[t24, t26]) h7 fun t27 h8 =>
    rd P h8 (Instr.fieldAt T.watch_Watch (pt C.w) 5) fun t29 => sem P (Instr.storeAt T.Sl_P_watch_held t29 t27) h8 fun _ h9 => k h9 := by
  obtain ⟨tv, sv, lo, c1, _, _, c4, c5, _⟩ := W.cells
  have hsum := V.sum
  have hkb := V.kb
  simp only [fa_watch_Watch_loose, Nat.zero_add, rd_ldr c1 sc_Sl_P_watch_held, List.getElem?_cons_zero, List.getElem?_cons_succ, optK_some]
  refine appK sl_Sl_P_watch_held ti_P_watch_held c4 rfl (by omega) (by simp; omega) W.fresh fun v' ha κ' F hT f hF hκ hfr hnew => ?_
  have hwF : C.w ∉ F := fun hb => by have := (hF _ hb).1; rw [W.kw] at this; cases this
  have r1 := f.row c1 hwF
  refine sem_st1 ti_Sl_P_watch_held r1 (by simp) ?_ ?_
  · obtain ⟨bs, o1, _⟩ := hT
    rcases o1 with ⟨rfl, _⟩ | ⟨_, _, _, _, rfl, _⟩ <;> rfl
  simp only [List.set_cons_succ, List.set_cons_zero]
  have f2 : ∀ l, Fr2 h (hput ha C.w l) (C.w :: F) := fun l => (f.mono fun b hb => List.mem_cons_of_mem _ hb).put (.inl (by simp))
  have hFk : ∀ b ∈ C.w :: F, κ b = .watch ∨ κ b = .loose := fun b hb => by
    rcases List.mem_cons.1 hb with rfl | hb
    · exact .inl W.kw
    · exact .inr (hF b hb).1
  refine hk _ κ' _ (W.looseUpd (ls := S.loose ++ [x]) (e := S.ex - 2) (lo' := v') c1 (f2 _) hFk hκ (fun b hb => by rw [size_hput] at hb; exact hfr b hb) (fun b hb e => by rcases hnew b hb with h | h <;> rw [h] at e <;> cases e) (hput_same r1) ?_ ?_) ?_ (Nx.of (f2 _) hκ fun b hb hfre => ?_) rfl
  · rw [List.map_append]
    refine hT.frame (F := [C.w]) ((Fr2.refl _ _).put (.inl (by simp))) (fun b hb => ?_) fun _ _ => rfl
    simp at hb; subst hb
    rw [hκ _ (W.lt (by rw [W.kw]; nofun)), W.kw]; nofun
  · intro y hy
    rcases List.mem_append.1 hy with h | h
    · exact c5 y h
    · simp at h; subst h; exact hx
  · refine { V with sum := ?_ }
    show S.lens.sum + 2 * (S.loose ++ [x]).length + (S.ex - 2) ≤ 2 * S.K
    simp; omega
  · rcases hFk b hb with e | e <;> rw [e] at hfre <;> rcases hfre with hfre | ⟨_, _, hfre⟩ <;> cases hfre
theorem k_hold {C : WC} {κ : Nat → Kind} {S : WS} {h : Heap} (W : WI C κ none S h) (V : VS C S) (hK : S.K + 1 < 549755813887) {v : Value} {xs : List Int} (hx : Ints h v xs) (hn : xs.length < 2199023255551) (hl : ∀ l ∈ xs, l ≠ 0 ∧ inR C.n l) (hh : hld C.m xs = true) {Q : Value → Heap → Prop}
    (hk : ∀ h' κ' S', WI C κ' none S' h' → VS C S' → Nx none h κ h' κ' → S'.K ≤ S.K + 1 → Q (.tuple #[]) h') : callF P F.watch_Watch_hold [pt C.w, v] h Q := by
  refine ok_watch_Watch_hold ?_
  have hn20 := V.n20
  unfold t_watch_Watch_hold
  refine k_Taut hx hn fun h1 f1 => ?_
  simp only [br_bool]
  refine ⟨fun _ => hk h1 κ S (W.keep f1) V (Nx.new f1) (by omega), fun _ => ?_⟩
  refine k_Tidy (hx.keep f1) hn fun tv h2 bs o2 f2 hb2 => ?_
  have htl := tidy_len xs
  have hmem : ∀ l ∈ tidy xs, l ≠ 0 ∧ inR C.n l := fun l h => hl l (mem_tidy.1 h).1
  have hhl : hld C.m (tidy xs) = true := by
    obtain ⟨t, ht, htt⟩ := List.any_eq_true.1 hh
    obtain ⟨t0, tR⟩ := hl t ht
    unfold inR at tR
    exact List.any_eq_true.2 ⟨t, mem_tidy.2 ⟨ht, formed_iff.2 ⟨t0, by omega, by omega⟩⟩, htt⟩
  have hsc : sc1 tv = true := by rcases o2 with ⟨rfl, _⟩ | ⟨_, _, _, _, rfl, _⟩ <;> rfl
  rw [bd_watch_held_0 hsc]
  refine sem_box ?_
  obtain ⟨κ3, W3, N3, hx3⟩ := W.newHeld (h3 := hnew h2 [tv, I 0, I 0] T.watch_held) (t := T.watch_held) (f1.trans f2 (by simp)) o2 (fun b hb => Nat.le_trans f1.size (hb2 b hb)) rfl hmem hhl (by omega)
  have e3 : (Value.agg #[tv, I 0, I 0]).cells.toList = [tv, I 0, I 0] := rfl
  have e4 : (.pointer (some ⟨h2.size, 0, none⟩) : Value) = pt h2.size := rfl
  rw [e3, e4]
  generalize h2.size = x at *
  generalize hnew h2 [tv, I 0, I 0] T.watch_held = h3 at *
  have W4 : WI C κ3 none { S with ex := S.ex + 2, K := S.K + 1 } h3 := W3.weak
  have V4 : VS C { S with ex := S.ex + 2, K := S.K + 1 } := { V with kb := by show S.K + 1 < _; omega, sum := by have := V.sum; show S.lens.sum + 2 * S.loose.length + (S.ex + 2) ≤ 2 * (S.K + 1); omega }
  simp only [k_Depth W3, rd_gtr, okNil_ptr, true_and]
  have fin : ∀ (h5 : Heap) (κ5 : Nat → Kind) (S5 : WS), WI C κ5 none S5 h5 → VS C S5 → Nx none h3 κ3 h5 κ5 → S5.K = S.K + 1 → 2 ≤ S5.ex → (rd P h5 (Instr.fieldAt T.watch_Watch (pt C.w) 5) fun t23 => rd P h5 (Instr.loadAt T.Sl_P_watch_held t23) fun t24 => sem P (Instr.buildSlice T.Sl_P_watch_held 1 #[(0, pt x)]) h5 fun t26 h7 => sem P (Builtin.append_ #[T.Sl_P_watch_held, T.Sl_P_watch_held] T.Sl_P_watch_held #[t24, t26]) h7 fun t27 h8 =>
    rd P h8 (Instr.fieldAt T.watch_Watch (pt C.w) 5) fun t29 => sem P (Instr.storeAt T.Sl_P_watch_held t29 t27) h8 fun _ h9 => Q (.tuple #[]) h9) := by
    intro h5 κ5 S5 W5 V5 N5 eK eX
    have hx5 : κ5 x = .held := by rw [N5.ext x (W3.lt (by rw [hx3]; nofun))]; exact hx3
    exact loosePush W5 V5 hx5 eX fun h6 κ6 S6 W6 V6 N6 e6 => hk h6 κ6 S6 W6 V6 (N3.trans (N5.trans N6)) (by omega)
  cases hd : decide (((S.starts.length : Nat) : Int) > 0) with
  | true =>
    simp only [isB_tt, isB_tf, isB_ft, isB_ff, gq_true, gq_false, gd_true, gd_false, ex_bool, cond_true, cond_false, br_bool]
    exact ⟨fun _ => fin h3 κ3 _ W4 V4 (Nx.refl _ _ _) rfl (by show 2 ≤ S.ex + 2; omega), nofun⟩
  | false =>
    simp only [isB_tt, isB_tf, isB_ft, isB_ff, gq_true, gq_false, gd_true, gd_false, ex_bool, cond_true, cond_false]
    refine k_attach W4 V4 hx3 (by show 2 ≤ S.ex + 2; omega) fun r h5 κ5 L5 W5 V5 N5 => ?_
    simp only [rd_not, ex_bool, cond_true, cond_false, br_bool]
    cases r with
    | true => exact ⟨nofun, fun _ => hk h5 κ5 _ W5 V5 (N3.trans N5) (by show S.K + 1 ≤ _; omega)⟩
    | false => exact ⟨fun _ => fin h5 κ5 _ W5 V5 N5 rfl (by show 2 ≤ S.ex + 2; omega), nofun⟩
theorem k_Add {C : WC} {κ : Nat → Kind} {S : WS} {h : Heap} (W : WI C κ none S h) (V : VS C S) (hK : S.K + 1 < 549755813887) {v : Value} {xs : List Int} (hx : Ints h v xs) (hn : xs.length < 2199023255551) (hh : hld C.m xs = true) {Q : Value → Heap → Prop}
    (hk : ∀ r h' κ' S', WI C κ' none S' h' → VS C S' → Nx none h κ h' κ' → S'.K ≤ S.K + 1 → Q (I r) h') : callF P F.watch_Watch_Add [pt C.w, v] h Q := by
  refine ok_watch_Watch_Add ?_
  unfold t_watch_Watch_Add
  refine k_within_w W V hx (by omega) fun r hr => ?_
  simp only [rd_not, br_bool]
  cases r with
  | false => exact ⟨fun _ => hk 1 h κ S W V (Nx.refl _ _ _) (by omega), nofun⟩
  | true =>
    refine ⟨nofun, fun _ => ?_⟩
    refine k_hold W V hK hx hn (hr rfl) hh fun h1 κ1 S1 W1 V1 N1 e1 => ?_
    obtain ⟨tv, sv, lo, c1, _⟩ := W1.cells
    simp only [okNil_ptr, true_and, fa_watch_Watch_rest, Nat.zero_add]
    refine sem_st1 ti_bool c1 (by simp) rfl ?_
    simp only [List.set_cons_succ, List.set_cons_zero]
    obtain ⟨W2, N2, _⟩ := WI.scal S1.head false S1.clash W1 c1
    exact hk 0 _ κ1 _ W2 { V1 with } (N1.trans N2) e1
end Go.Proofs.Ytihbhklcnbdijaa
