/- The walk: watch, the rest of it. -/
import Derived.Test.YtihbhklcnbdijaaWatchD
set_option linter.unusedSimpArgs false
set_option linter.unusedVariables false
namespace Go.Proofs.Ytihbhklcnbdijaa
open Go

theorem k_Depth {C : WC} {κ : Nat → Kind} {o : Option Nat} {S : WS} {h : Heap} (W : WI C κ o S h) {Q : Value → Heap → Prop} : callF P F.watch_Watch_Depth [pt C.w] h Q = Q (I (S.starts.length : Nat)) h := by
  refine callF_eq en_watch_Watch_Depth (ok_watch_Watch_Depth ?_) Q
  obtain ⟨tv, sv, lo, c1, _, ⟨sb, s1, sk⟩, _⟩ := W.cells
  obtain ⟨sa, sc, rfl⟩ := own_form s1
  unfold t_watch_Watch_Depth
  simp only [okNil_ptr, true_and, fa_watch_Watch_starts, Nat.zero_add, rd_ldr c1 sc_Sl_int, List.getElem?_cons_zero, List.getElem?_cons_succ, optK_some, ln_Sl_int, List.length_map]
theorem k_Lits {C : WC} {κ : Nat → Kind} {S : WS} {h : Heap} (W : WI C κ none S h) (V : VS C S) {Q : Value → Heap → Prop}
    (hk : ∀ v h' bs, Own h' 1 v bs ((tidy S.trail).map I) → Fr2 h h' [] → (∀ b ∈ bs, h.size ≤ b) → Q v h') : callF P F.watch_Watch_Lits [pt C.w] h Q := by
  refine ok_watch_Watch_Lits ?_
  obtain ⟨tv, sv, lo, c1, ⟨tb, t1, tk⟩, _⟩ := W.cells
  have := V.tz
  have := V.n20
  unfold t_watch_Watch_Lits
  simp only [okNil_ptr, true_and, fa_watch_Watch_trail, Nat.zero_add, rd_ldr c1 sc_Sl_int, List.getElem?_cons_zero, List.getElem?_cons_succ, optK_some]
  exact k_Tidy t1.src (by omega) hk
theorem k_Clashes {C : WC} {κ : Nat → Kind} {o : Option Nat} {S : WS} {h : Heap} (W : WI C κ o S h) {Q : Value → Heap → Prop} : callF P F.watch_Watch_Clashes [pt C.w] h Q = Q (.bool S.clash) h := by
  refine callF_eq en_watch_Watch_Clashes (ok_watch_Watch_Clashes ?_) Q
  obtain ⟨tv, sv, lo, c1, _⟩ := W.cells
  unfold t_watch_Watch_Clashes
  simp only [okNil_ptr, true_and, fa_watch_Watch_clash, Nat.zero_add, rd_ldr c1 sc_bool, List.getElem?_cons_zero, List.getElem?_cons_succ, optK_some]
/-- Clauses gone through whole: another list of them. -/
theorem WI.looseUpd {C : WC} {κ κ' : Nat → Kind} {S : WS} {h h' : Heap} {F : List Nat} {tv sv lo lo' A B : Value} {ls : List Nat} {e : Nat} (W : WI C κ none S h) (hr : row h C.w = some [A, tv, sv, I S.head, B, lo, .bool S.rest, .bool S.clash]) (f : Fr2 h h' F) (hF : ∀ b ∈ F, κ b = .watch ∨ κ b = .loose) (hκ : Ext h κ κ')
    (hfr : ∀ b, h'.size ≤ b → κ' b = .none) (hnew : ∀ b, h.size ≤ b → κ' b ≠ .held)
    (hc : row h' C.w = some [A, tv, sv, I S.head, B, lo', .bool S.rest, .bool S.clash]) (ho : OwnK h' κ' .loose lo' (ls.map pt)) (hh : ∀ x ∈ ls, κ x = .held) : WI C κ' none { S with loose := ls, lo := lo', ex := e } h' := by
  obtain ⟨tv', sv', lo2, h1, h2, h3, h4, h5, hlo⟩ := W.cells
  rw [hr] at h1
  injection h1 with h1
  injection h1 with e1 h1
  injection h1 with e2 h1
  injection h1 with e3 h1
  injection h1 with _ h1
  injection h1 with e4 h1
  injection h1 with e5 h1
  subst e1 e2 e3 e4 e5
  obtain ⟨lvs, l1, l2, l3⟩ := W.lists
  have ne : ∀ k : Kind, k ≠ .watch → k ≠ .loose → ∀ b ∈ F, κ b ≠ k := fun k a b x hx e => by
    rcases hF x hx with h | h <;> rw [h] at e <;> first | exact a e.symm | exact b e.symm
  have hheld : ∀ x, κ x = .held → κ' x = .held := fun x hx => by rw [hκ x (W.lt (by rw [hx]; nofun))]; exact hx
  refine ⟨?_, ?_, ?_, hfr, ⟨tv, sv, lo', hc, h2.frame f (ne .trail nofun nofun) hκ, h3.frame f (ne .starts nofun nofun) hκ, ho, fun x hx => hheld x (hh x hx), rfl⟩, f.row W.vals (fun hb => ne .vals nofun nofun _ hb W.kv), ⟨lvs, f.row l1 (fun hb => ne .lists nofun nofun _ hb W.kl), l2, fun j hj hho => ?_⟩, fun x hx => ?_⟩
  · rw [hκ _ (W.lt (by rw [W.kw]; nofun))]; exact W.kw
  · rw [hκ _ (W.lt (by rw [W.kv]; nofun))]; exact W.kv
  · rw [hκ _ (W.lt (by rw [W.kl]; nofun))]; exact W.kl
  · obtain ⟨v, hs2, a1, a2, a3, a4⟩ := l3 j hj hho
    exact ⟨v, hs2, a1, a2.frame f (ne (.list j) nofun nofun) hκ, fun x hx => hheld x (a3 x hx), a4⟩
  · rcases Nat.lt_or_ge x h.size with hx' | hx'
    · have hx2 : κ x = .held := by rw [← hκ x hx']; exact hx
      exact (W.helds x hx2).frame f (fun hb => ne .held nofun nofun _ hb hx2) (ne .lits nofun nofun) hκ
    · exact absurd hx (hnew x hx')
theorem k_tight1 {C : WC} {κ : Nat → Kind} {o : Option Nat} {S : WS} {h : Heap} (W : WI C κ o S h) (V : VS C S) {l : Int} {bx : Nat} (hl : inR C.n l) (hb : row h bx = some [pt C.w]) {Q : Value → Heap → Prop} :
    callF P F.watch_Watch_tighten_1 [I l, pt bx] h Q = Q (.bool (valOf S.vals l == 1)) h := by
  refine callF_eq en_watch_Watch_tighten_1 (ok_watch_Watch_tighten_1 ?_) Q
  unfold t_watch_Watch_tighten_1
  simp only [rd_ldr hb sc_P_watch_Watch, List.getElem?_cons_zero, optK_some, k_of W V hl, rd_eql]
  exact ⟨trivial, trivial⟩
theorem k_Contains1 {C : WC} {κ : Nat → Kind} {o : Option Nat} {S : WS} {h : Heap} (W : WI C κ o S h) (V : VS C S) {lv : Value} {ls : List Int} {bx : Nat} (hI : Ints h lv ls) (hn : ls.length < 2199023255551) (hl : ∀ l ∈ ls, inR C.n l) (hb : row h bx = some [pt C.w]) {Q : Value → Heap → Prop}
    (hk : ∀ r : Bool, Q (.bool r) h) : callF P F.slices_ContainsFunc_int [lv, .func (.func F.watch_Watch_tighten_1) #[] #[pt bx]] h Q := by
  refine ok_slices_ContainsFunc_int ?_
  unfold t_slices_ContainsFunc_int
  refine callF_mono (k := fun v h' => (∃ r : Int, v = I r) ∧ h' = h) ?_ ?_
  · refine ok_slices_IndexFunc_int ?_
    obtain ⟨a, c, rfl, hg⟩ := hI.form
    unfold t_slices_IndexFunc_int
    simp only [ln_Sl_int]
    refine lp1_of (fun z h' => h' = h ∧ ∃ i : Nat, z = I i ∧ i ≤ ls.length) (fun z _ => ls.length - iv z) ⟨rfl, 0, rfl, Nat.zero_le _⟩ ?_
    rintro z g h' ⟨rfl, i, rfl, hi⟩ k hk'
    simp only [rd_lss, br_bool]
    refine ⟨fun hlt => ?_, fun hge => ⟨⟨_, rfl⟩, trivial⟩⟩
    have hlt' : i < ls.length := by simpa using hlt
    rw [ints_el hg hlt', callV_func]
    simp only [List.nil_append, List.cons_append, k_tight1 W V (hl _ (List.getElem_mem hlt')) hb, br_bool, rd_add]
    rw [wrap_succ (by omega)]
    exact ⟨fun _ => ⟨⟨_, rfl⟩, trivial⟩, fun _ => hk' _ _ ⟨rfl, i + 1, rfl, hlt'⟩ (by simp only [iv, Int.toNat_natCast]; omega)⟩
  · rintro v h' ⟨⟨r, rfl⟩, rfl⟩
    simp only [rd_geq]
    exact hk _
theorem k_tighten {C : WC} {κ : Nat → Kind} {S : WS} {h : Heap} (W : WI C κ none S h) (V : VS C S) (hK : S.K < 549755813887) {Q : Value → Heap → Prop}
    (hk : ∀ h' κ' S', WI C κ' none S' h' → VS C S' → Nx none h κ h' κ' → S'.K = S.K → S'.rest = S.rest → S'.clash = S.clash → Q (.tuple #[]) h') : callF P F.watch_Watch_tighten [pt C.w] h Q := by
  refine ok_watch_Watch_tighten ?_
  unfold t_watch_Watch_tighten
  refine sem_box ?_
  have f1 : Fr2 h (hnew h (pt C.w).cells.toList T.P_watch_Watch) [] := (Fr2.refl h []).new
  have r1 : row (hnew h (pt C.w).cells.toList T.P_watch_Watch) h.size = some [pt C.w] := row_hnew_new
  have hbx : κ h.size = .none := W.fresh _ (Nat.le_refl _)
  have W1 := W.keep f1
  generalize hnew h (pt C.w).cells.toList T.P_watch_Watch = h1 at f1 r1 W1
  generalize h.size = bx at *
  obtain ⟨tv, sv, lo, c1, _, _, ⟨lb, l1, lk⟩, l2, hlo⟩ := W1.cells
  obtain ⟨la, lc, rfl⟩ := own_form l1
  simp only [rd_ldr r1 sc_P_watch_Watch, okNil_ptr, true_and, fa_watch_Watch_loose, Nat.zero_add, rd_ldr c1 sc_Sl_P_watch_held, List.getElem?_cons_zero, List.getElem?_cons_succ, optK_some]
  rw [ln_Sl_P_watch_held]
  have hll : (S.loose.map pt).length = S.loose.length := List.length_map _
  have hsum := V.sum
  have W0 : WI C κ none { S with lens := S.lens, ex := S.ex + 2 * S.loose.length, K := S.K + S.loose.length } h1 := W1.weak
  have V0 : VS C { S with lens := S.lens, ex := S.ex + 2 * S.loose.length, K := S.K + S.loose.length } := { V with kb := by show S.K + S.loose.length < _; omega, sum := by show S.lens.sum + 2 * S.loose.length + (S.ex + 2 * S.loose.length) ≤ 2 * (S.K + S.loose.length); omega }
  refine lp1_of (fun z h' => ∃ (j : Nat) (κ' : Nat → Kind) (L : List Nat) (e : Nat), z = I j ∧ j ≤ S.loose.length ∧ WI C κ' none { S with lens := L, ex := e, K := S.K + S.loose.length } h' ∧ VS C { S with lens := L, ex := e, K := S.K + S.loose.length } ∧ Nx none h1 κ h' κ' ∧ row h' bx = some [pt C.w] ∧ κ' bx = .none ∧ 2 * (S.loose.length - j) ≤ e) (fun z _ => S.loose.length - iv z) ⟨0, κ, _, _, rfl, Nat.zero_le _, W0, V0, Nx.refl _ _ _, r1, hbx, by omega⟩ ?_
  rintro z g h' ⟨j, κ', L, e, rfl, hj, W', V', N', r', hbx', he⟩ k hk'
  obtain ⟨tv', sv', lo', c', _, _, ⟨lb', l1', lk'⟩, l2', hlo'⟩ := W'.cells
  have e1 : lo' = .slice la (S.loose.map pt).length lc := by rw [hlo']; exact hlo.symm
  subst e1
  obtain ⟨la', lc', e', hgl⟩ := Src.form l1'.src
  injection e' with e1 _ e3
  subst e1 e3
  simp only [rd_lss, br_bool, hll]
  refine ⟨fun hlt => ?_, fun hge => ?_⟩
  · have hlt' : j < S.loose.length := by simpa using hlt
    refine jn_intro fun K hK => ?_
    obtain ⟨bq, oq, rfl, hcq⟩ := hgl j (by rw [hll]; exact hlt')
    have hx := l2' _ (List.getElem_mem hlt')
    rw [ix_Sl_P_watch_held hlt', Nat.mul_one, rd_ld hcq sc_P_watch_held]
    simp only [List.getElem_map]
    generalize S.loose[j] = x at *
    obtain ⟨lv, ls, a, b, x1, ⟨lbs, x2, x2k⟩, x3, x4, x5, x6, x7⟩ := W'.helds x hx
    simp only [okNil_ptr, true_and, fa_watch_held_lits, Nat.zero_add, rd_ldr x1 sc_Sl_int, List.getElem?_cons_zero, optK_some, rd_mf]
    have keyK : ∀ h5 κ5 L5 e5, WI C κ5 none { S with lens := L5, ex := e5, K := S.K + S.loose.length } h5 → VS C { S with lens := L5, ex := e5, K := S.K + S.loose.length } → Nx none h' κ' h5 κ5 → 2 * (S.loose.length - (j + 1)) ≤ e5 → K h5 := by
      intro h5 κ5 L5 e5 a b c d
      rw [hK]
      simp only [rd_add]
      rw [wrap_succ (by omega)]
      refine hk' _ _ ⟨j + 1, κ5, L5, e5, rfl, hlt', a, b, N'.trans c, ?_, ?_, d⟩ (by simp only [iv, Int.toNat_natCast]; omega)
      · unfold row at r' ⊢
        rw [c.keep bx (row_lt r') (.inl hbx')]; exact r'
      · rw [c.ext bx (row_lt r')]; exact hbx'
    refine k_Contains1 W' V' x2.src x7 (fun l hl => (x3 l hl).2) r' fun r => ?_
    simp only [rd_not, br_bool, rd_ldr r' sc_P_watch_Watch, List.getElem?_cons_zero, optK_some]
    refine ⟨fun _ => ?_, fun _ => keyK h' κ' L e W' V' (Nx.refl _ _ _) (by omega)⟩
    refine k_attach W' V' hx (by show 2 ≤ e; omega) fun r h5 κ5 L5 W5 V5 N5 => ?_
    refine keyK h5 κ5 L5 _ W5 V5 N5 ?_
    show _ ≤ if r then e - 2 else e
    split <;> omega
  · simp only [rd_ldr r' sc_P_watch_Watch, okNil_ptr, true_and, List.getElem?_cons_zero, optK_some, fa_watch_Watch_loose, Nat.zero_add]
    refine sem_st1 ti_Sl_P_watch_held c' (by simp) rfl ?_
    simp only [List.set_cons_succ, List.set_cons_zero]
    have f5 : ∀ l, Fr2 h' (hput h' C.w l) [C.w] := fun l => (Fr2.refl _ _).put (.inl (by simp))
    refine hk _ κ' { S with lens := L, ex := e, loose := [], lo := .slice none 0 0 } (WI.weak (S := { S with lens := L, ex := e, K := S.K + S.loose.length, loose := [], lo := .slice none 0 0 }) (W'.looseUpd (ls := []) (e := e) (lo' := .slice none 0 0) c' (f5 _) (fun b hb => by simp at hb; subst hb; exact .inl W'.kw) (Ext.refl _ _) (fun b hb => by rw [size_hput] at hb; exact W'.fresh b hb) (fun b hb e => by rw [W'.fresh b hb] at e; cases e) (hput_same c') ⟨[], Own.nil _ 1, by simp⟩ (by simp))) ?_ ((Nx.new f1).trans (N'.trans (Nx.of (f5 _) (Ext.refl _ _) fun b hb hfre => ?_))) rfl rfl rfl
    · refine { V' with kb := V.kb, sum := ?_ }
      have := V'.sum
      show L.sum + 2 * 0 + e ≤ 2 * S.K
      have h2 : L.sum + 2 * S.loose.length + e ≤ 2 * (S.K + S.loose.length) := this
      omega
    · simp at hb; subst hb; rw [W'.kw] at hfre
      rcases hfre with hfre | ⟨_, _, hfre⟩ <;> cases hfre
end Go.Proofs.Ytihbhklcnbdijaa
