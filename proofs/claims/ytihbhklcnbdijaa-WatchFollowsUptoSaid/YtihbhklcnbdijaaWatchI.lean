/- The walk: watch.New. -/
import Derived.Test.YtihbhklcnbdijaaWatchH
set_option linter.unusedSimpArgs false
set_option linter.unusedVariables false
namespace Go.Proofs.Ytihbhklcnbdijaa
open Go

/-- A Watch that is new made. -/
theorem WI.start {m : List Bool} {n : Nat} {h h' : Heap} {vb lb w : Nat} (hn : n ≤ 1048576) (f : Fr2 h h' []) (hv : h.size ≤ vb) (hl : h.size ≤ lb) (hw : h.size ≤ w) (h1 : vb ≠ lb) (h2 : vb ≠ w) (h3 : lb ≠ w)
    (rv : row h' vb = some (List.replicate (n + 1) (J 0))) (rl : row h' lb = some (List.replicate (2 * n) (.slice none 0 0)))
    (rw_ : row h' w = some [.slice (some ⟨vb, 0, none⟩) (n + 1) (n + 1), .slice none 0 0, .slice none 0 0, I 0, .slice (some ⟨lb, 0, none⟩) (2 * n) (2 * n), .slice none 0 0, .bool false, .bool false]) :
    ∃ κ S, WI ⟨m, n, w, vb, lb⟩ κ none S h' ∧ VS ⟨m, n, w, vb, lb⟩ S ∧ Nx none h (fun _ => .none) h' κ ∧ S.K = 0 := by
  refine ⟨fun b => if b = vb then .vals else if b = lb then .lists else if b = w then .watch else .none, ⟨List.replicate (n + 1) 0, [], [], 0, List.replicate (2 * n) 0, [], false, false, 0, 0, .slice none 0 0⟩, ?_, ?_, ?_, rfl⟩
  · have nh : ∀ x, (if x = vb then Kind.vals else if x = lb then .lists else if x = w then .watch else .none) ≠ .held := fun x => by
      split
      · nofun
      · split
        · nofun
        · split <;> nofun
    refine ⟨?_, ?_, ?_, fun b hb => ?_, ⟨_, _, _, rw_, ⟨[], Own.nil _ 1, by simp⟩, ⟨[], Own.nil _ 1, by simp⟩, ⟨[], Own.nil _ 1, by simp⟩, by simp, rfl⟩, ?_, ⟨_, rl, by simp, fun i hi _ => ⟨.slice none 0 0, [], ?_, ⟨[], Own.nil _ 1, by simp⟩, by simp, ?_⟩⟩, fun x hx => absurd hx (nh x)⟩
    · show (if _ then _ else _) = _; rw [if_neg (Ne.symm h2), if_neg (Ne.symm h3), if_pos rfl]
    · show (if _ then _ else _) = _; rw [if_pos rfl]
    · show (if _ then _ else _) = _; rw [if_neg (Ne.symm h1), if_pos rfl]
    · show (if _ then _ else _) = _
      have a := row_lt rv
      have b' := row_lt rl
      have c := row_lt rw_
      rw [if_neg (by omega), if_neg (by omega), if_neg (by omega)]
    · rw [rv]; simp [List.map_replicate]
    · show (List.replicate (2 * n) (Value.slice none 0 0))[i]? = _
      rw [List.getElem?_replicate, if_pos hi]
    · show (List.replicate (2 * n) 0)[i]? = _
      rw [List.getElem?_replicate, if_pos hi]; rfl
  · constructor
    · simp
    · intro x hx
      exact .inr (.inl (List.mem_replicate.1 hx).2)
    · intro v _ hv
      have := List.mem_of_getElem? hv
      have := (List.mem_replicate.1 this).2
      omega
    · intro v _ hv
      have := List.mem_of_getElem? hv
      have := (List.mem_replicate.1 this).2
      omega
    · intro l hl; cases hl
    · show 0 + zeros (List.replicate (n + 1) 0) ≤ n + 1
      simp [zeros]
    · exact Nat.le_refl _
    · exact List.Pairwise.nil
    · intro s hs; cases hs
    · exact hn
    · show 0 < 1099511627775; omega
    · show (List.replicate (2 * n) 0).sum + 2 * 0 + 0 ≤ 2 * 0
      simp
    · show (List.replicate (2 * n) 0).length = 2 * n
      simp
  · refine Nx.of f (fun b hb => ?_) (by simp)
    show (if _ then _ else _) = _
    rw [if_neg (by omega), if_neg (by omega), if_neg (by omega)]
theorem Nx.fr {h h' : Heap} {κ : Nat → Kind} (N : Nx Option.none h (fun _ => .none) h' κ) : Fr2 h h' [] := ⟨N.size, fun b hb _ => N.keep b hb (.inl rfl)⟩
theorem rep_of {cells : List Value} {n : Nat} {z : Value} (hl : cells.length = n * 1) (hg : ∀ j, j < n * 1 → cells[j]? = [z][j % 1]?) : cells = List.replicate n z := by
  apply List.ext_getElem?
  intro j
  rw [List.getElem?_replicate]
  split
  · rename_i hj
    rw [hg j (by omega), Nat.mod_one]; rfl
  · rename_i hj
    exact List.getElem?_eq_none (by omega)
theorem k_New {m : List Bool} {n : Int} {cv : Value} {cs : List (List Int)} {h : Heap} (hx : Rows h cv cs) (hcs : cs.length < 549755813886) (hc : ∀ c ∈ cs, c.length < 2199023255551) (hh : ∀ c ∈ cs, hld m c = true) {Q : Value → Heap → Prop}
    (hk0 : ∀ h', Fr2 h h' [] → Q (.tuple #[.pointer none, I 1]) h')
    (hk1 : ∀ C κ S h', C.m = m → WI C κ none S h' → VS C S → Nx none h (fun _ => .none) h' κ → S.K ≤ cs.length → Q (.tuple #[pt C.w, I 0]) h') : callF P F.watch_New [.agg #[I n, cv]] h Q := by
  refine ok_watch_New ?_
  unfold t_watch_New
  refine sem_box ?_
  have e0 : (Value.agg #[I n, cv]).cells.toList = [I n, cv] := rfl
  rw [e0]
  have f1 : Fr2 h (hnew h [I n, cv] T.api_Formula) [] := (Fr2.refl h []).new
  have r1 : row (hnew h [I n, cv] T.api_Formula) h.size = some [I n, cv] := row_hnew_new
  generalize hnew h [I n, cv] T.api_Formula = h1 at f1 r1
  rw [rd_lda (l := [I n, cv]) ag_api_Formula (hcells_row r1 2 0 (by simp))]
  refine k_cnfFormed (hx.keep f1) (by omega) (fun c h => by have := hc c h; omega) fun h2 f2 => ?_
  have f02 := f1.trans f2 (by simp)
  simp only [rd_not, br_bool]
  refine ⟨fun _ => hk0 h2 f02, fun hok => ?_⟩
  have hok' : formulaOk n cs = true := by simpa using hok
  simp only [formulaOk, Bool.and_eq_true, decide_eq_true_eq, List.all_eq_true, clauseOk] at hok'
  obtain ⟨⟨hn0, hn1⟩, hall⟩ := hok'
  obtain ⟨n, rfl⟩ : ∃ k : Nat, n = k := ⟨n.toNat, by omega⟩
  have r2 := f2.row r1 (by simp)
  have hbx : h.size < h2.size := by have := row_lt r2; omega
  refine jn_intro fun K hK => ?_
  have hin : ∀ c ∈ cs, ∀ l ∈ c, l ≠ 0 ∧ inR n l := fun c hcm l hlm => by
    obtain ⟨h1, h2⟩ := hall c hcm
    have hf := List.all_eq_true.1 h1 l hlm
    have hf' := formed_iff.1 hf
    have hv := h2 l hlm
    simp only [varOf, hf, if_true] at hv
    unfold inR
    refine ⟨hf'.1, ?_⟩
    split at hv <;> omega
  have keyK : ∀ (C : WC) (κ : Nat → Kind) (S : WS) (h5 : Heap), C.m = m → C.n = n → WI C κ none S h5 → VS C S → Nx none h2 (fun _ => .none) h5 κ → S.K = 0 → K (pt C.w) h5 := by
    intro C κ S h5 em en W V N eK
    rw [hK]
    have r5 : row h5 h.size = some [I n, cv] := N.fr.row r2 (by simp)
    have hx5 : Rows h5 cv cs := hx.keep (f02.trans N.fr (by simp))
    simp only [fa_api_Formula_Clauses, Nat.zero_add, rd_ldr r5 sc_Sl_Sl_int, List.getElem?_cons_zero, List.getElem?_cons_succ, optK_some]
    obtain ⟨a, c, rfl, hg⟩ := hx5.form
    simp only [ln_Sl_Sl_int]
    refine lp1_of (fun z h' => ∃ (i : Nat) (κ' : Nat → Kind) (S' : WS), z = I i ∧ i ≤ cs.length ∧ WI C κ' none S' h' ∧ VS C S' ∧ Nx none h2 (fun _ => .none) h' κ' ∧ S'.K ≤ i) (fun z _ => cs.length - iv z) ⟨0, κ, S, rfl, Nat.zero_le _, W, V, N, by omega⟩ ?_
    rintro z g h6 ⟨i, κ6, S6, rfl, hi, W6, V6, N6, K6⟩ k hk'
    have hx6 : Rows h6 (.slice a cs.length c) cs := hx.keep (f02.trans N6.fr (by simp))
    obtain ⟨a', c', e', hg6⟩ := hx6.form
    injection e' with e1 _ e3
    subst e1 e3
    simp only [rd_lss, br_bool]
    refine ⟨fun hlt => ?_, fun hge => ?_⟩
    · have hlt' : i < cs.length := by simpa using hlt
      refine rows_el hg6 hlt' fun u hu => ?_
      have hm := List.getElem_mem hlt'
      refine k_hold W6 V6 (by omega) hu (hc _ hm) (fun l hl => by rw [en]; exact hin _ hm l hl) (by rw [em]; exact hh _ hm) fun h7 κ7 S7 W7 V7 N7 K7 => ?_
      simp only [rd_add]
      rw [wrap_succ (by omega)]
      exact hk' _ _ ⟨i + 1, κ7, S7, rfl, hlt', W7, V7, N6.trans N7, by omega⟩ (by simp only [iv, Int.toNat_natCast]; omega)
    · have hie : i = cs.length := by have : ¬ (i < cs.length) := by simpa using hge
                                     omega
      exact hk1 C κ6 S6 h6 em W6 V6 ((Nx.new f02).trans N6) (by omega)
  have cell0 : ∀ h', row h' h.size = some [I n, cv] → Rd P h' (Instr.loadAt T.int (.pointer (some ⟨h.size, 0, none⟩))) (I n) := fun h' e => Rd_ld sc_int (by rw [hcell_row e]; rfl)
  simp only [qfa_api_Formula_Vars, Nat.zero_add]
  refine ⟨fun h' => row h' h.size = some [I n, cv], r2, qs_of (fun h' e => cell0 h' e) ?_⟩
  simp only [qa_add]
  refine ⟨fun h' => row h' h.size = some [I n, cv], r2, qs_of (fun h' e => cell0 h' e) ?_⟩
  simp only [qa_mul]
  rw [wrap_succ (by omega), wrap_in (n := 2 * (n : Int)) (by omega) (by omega), show (2 * (n : Int)) = ((2 * n : Nat) : Int) by omega]
  -- whichever is made first
  have fin : ∀ (h4 : Heap) (vb lb : Nat), Fr2 h2 h4 [] → h2.size ≤ vb → h2.size ≤ lb → vb ≠ lb → row h4 vb = some (List.replicate (n + 1) (J 0)) → row h4 lb = some (List.replicate (2 * n) (.slice none 0 0)) →
      (qa P (Instr.build 65 #[(0, .slice (some ⟨vb, 0, none⟩) (n + 1) (n + 1)), (4, .slice (some ⟨lb, 0, none⟩) (2 * n) (2 * n))]) fun t18 => sem P (Instr.box 65 t18) h4 fun t19 h8 => row h8 h.size = some [I n, cv] ∧ row h8 h.size = some [I n, cv] ∧ K t19 h8) := by
    intro h4 vb lb f4 hv hl hne rv rl
    rw [qbd_watch_Watch_0_4 rfl rfl]
    refine sem_box ?_
    have f5 : ∀ l t, Fr2 h4 (hnew h4 l t) [] := fun l t => (Fr2.refl _ _).new
    have a := row_lt rv
    have b := row_lt rl
    obtain ⟨κ, S, W, V, N, eK⟩ := WI.start (m := m) (n := n) (h := h2) (h' := hnew h4 (Value.agg #[.slice (some ⟨vb, 0, none⟩) (n + 1) (n + 1), .slice none 0 0, .slice none 0 0, I 0, .slice (some ⟨lb, 0, none⟩) (2 * n) (2 * n), .slice none 0 0, .bool false, .bool false]).cells.toList T.watch_Watch) (w := h4.size) (by omega) (f4.trans (f5 _ _) (by simp)) hv hl f4.size hne (by omega) (by omega) ((f5 _ _).row rv (by simp)) ((f5 _ _).row rl (by simp)) row_hnew_new
    have r8 := (f4.trans (f5 (Value.agg #[.slice (some ⟨vb, 0, none⟩) (n + 1) (n + 1), .slice none 0 0, .slice none 0 0, I 0, .slice (some ⟨lb, 0, none⟩) (2 * n) (2 * n), .slice none 0 0, .bool false, .bool false]).cells.toList T.watch_Watch) (by simp)).row r2 (by simp)
    exact ⟨r8, r8, keyK ⟨m, n, h4.size, vb, lb⟩ κ S _ rfl rfl W V N eK⟩
  refine ⟨?_, ?_⟩
  · refine sem_make (l := n + 1) sl_Sl_int8 ti_int8 rfl (Nat.le_refl _) (by omega) (by omega) fun cells hl hg => ?_
    have e1 := rep_of hl hg
    subst e1
    have f3 : Fr2 h2 (hnew h2 (List.replicate (n + 1) (.int .i8 0)) T.int8) [] := (Fr2.refl _ _).new
    have rv : row (hnew h2 (List.replicate (n + 1) (.int .i8 0)) T.int8) h2.size = some (List.replicate (n + 1) (J 0)) := row_hnew_new
    have s3 : (hnew h2 (List.replicate (n + 1) (.int .i8 0)) T.int8).size = h2.size + 1 := size_hnew _ _ _
    generalize hnew h2 (List.replicate (n + 1) (.int .i8 0)) T.int8 = h3 at *
    refine ⟨f3.row r2 (by simp), f3.row r2 (by simp), ?_⟩
    refine sem_make (l := 2 * n) sl_Sl_Sl_P_watch_held ti_Sl_P_watch_held rfl (Nat.le_refl _) (by omega) (by omega) fun cells hl hg => ?_
    have e1 := rep_of hl hg
    subst e1
    have f4 : Fr2 h3 (hnew h3 (List.replicate (2 * n) (.slice none 0 0)) T.Sl_P_watch_held) [] := (Fr2.refl _ _).new
    exact ⟨(f3.trans f4 (by simp)).row r2 (by simp), (f3.trans f4 (by simp)).row r2 (by simp), fin _ h2.size h3.size (f3.trans f4 (by simp)) (Nat.le_refl _) f3.size (by omega) (f4.row rv (by simp)) row_hnew_new⟩
  · refine sem_make (l := 2 * n) sl_Sl_Sl_P_watch_held ti_Sl_P_watch_held rfl (Nat.le_refl _) (by omega) (by omega) fun cells hl hg => ?_
    have e1 := rep_of hl hg
    subst e1
    have f3 : Fr2 h2 (hnew h2 (List.replicate (2 * n) (.slice none 0 0)) T.Sl_P_watch_held) [] := (Fr2.refl _ _).new
    have rl : row (hnew h2 (List.replicate (2 * n) (.slice none 0 0)) T.Sl_P_watch_held) h2.size = some (List.replicate (2 * n) (.slice none 0 0)) := row_hnew_new
    have s3 : (hnew h2 (List.replicate (2 * n) (.slice none 0 0)) T.Sl_P_watch_held).size = h2.size + 1 := size_hnew _ _ _
    generalize hnew h2 (List.replicate (2 * n) (.slice none 0 0)) T.Sl_P_watch_held = h3 at *
    refine ⟨f3.row r2 (by simp), f3.row r2 (by simp), ?_⟩
    refine sem_make (l := n + 1) sl_Sl_int8 ti_int8 rfl (Nat.le_refl _) (by omega) (by omega) fun cells hl hg => ?_
    have e1 := rep_of hl hg
    subst e1
    have f4 : Fr2 h3 (hnew h3 (List.replicate (n + 1) (.int .i8 0)) T.int8) [] := (Fr2.refl _ _).new
    exact ⟨(f3.trans f4 (by simp)).row r2 (by simp), (f3.trans f4 (by simp)).row r2 (by simp), fin _ h3.size h2.size (f3.trans f4 (by simp)) f3.size (Nat.le_refl _) (by omega) row_hnew_new (f4.row rl (by simp))⟩
end Go.Proofs.Ytihbhklcnbdijaa
