/- The walk: watch, assumptions, and New. -/
import Derived.Test.YtihbhklcnbdijaaWatchG
set_option linter.unusedSimpArgs false
set_option linter.unusedVariables false
namespace Go.Proofs.Ytihbhklcnbdijaa
open Go

theorem k_Assume {C : WC} {κ : Nat → Kind} {S : WS} {h : Heap} (W : WI C κ none S h) (V : VS C S) {l : Int} (ht : tru C.m l = true) {Q : Value → Heap → Prop}
    (hk : ∀ r h' κ' S', WI C κ' none S' h' → VS C S' → Nx none h κ h' κ' → S'.K = S.K → Q (I r) h') : callF P F.watch_Watch_Assume [pt C.w, I l] h Q := by
  refine ok_watch_Watch_Assume ?_
  unfold t_watch_Watch_Assume
  refine sem_bs1 sl_Sl_int ti_int rfl (by omega) (by omega) ?_
  have e0 : (I l).cells.toList = [I l] := rfl
  rw [e0]
  have f1 : Fr2 h (hnew h [I l] T.int) [] := (Fr2.refl h []).new
  have o1 : Own (hnew h [I l] T.int) 1 (.slice (some ⟨h.size, 0, none⟩) 1 1) [h.size] ([l].map I) := own_new rfl
  have W1 := W.keep f1
  generalize hnew h [I l] T.int = h1 at f1 o1 W1
  refine k_within_w W1 V o1.src (by simp) fun r hr => ?_
  obtain ⟨tv, sv, lo, c1, ⟨tb, t1, tk⟩, c3, _⟩ := W1.cells
  obtain ⟨ta, tc, rfl⟩ := own_form t1
  have hlm : (S.trail.map I).length = S.trail.length := List.length_map _
  have htz := V.tz
  have hn20 := V.n20
  have hsb : S.starts.length ≤ S.trail.length := rise_len S.starts 0 _ V.st (fun s hs => ⟨Nat.zero_le _, V.sl s hs⟩)
  simp only [rd_not, br_bool, okNil_ptr, true_and, fa_watch_Watch_rest, Nat.zero_add, rd_ldr c1 sc_bool, List.getElem?_cons_zero, List.getElem?_cons_succ, optK_some, qfa_watch_Watch_starts, qfa_watch_Watch_trail]
  cases r with
  | false => exact ⟨fun _ => hk 1 h1 κ S W1 V (Nx.new f1) rfl, nofun⟩
  | true =>
  refine ⟨nofun, fun _ => ⟨fun _ => hk 3 h1 κ S W1 V (Nx.new f1) rfl, fun _ => ?_⟩⟩
  obtain ⟨l0, lR⟩ := hr rfl l (by simp)
  rw [k_of W1 V lR]
  simp only [rd_neq, br_bool]
  refine ⟨fun _ => hk 50 h1 κ S W1 V (Nx.new f1) rfl, fun hz => ?_⟩
  have hz' : valOf S.vals l = 0 := by simpa using hz
  have cell2 : ∀ h', row h' C.w = row h1 C.w → Rd P h' (Instr.loadAt T.Sl_int (.pointer (some ⟨C.w, 2, none⟩))) sv := fun h' e => Rd_ld sc_Sl_int (by rw [hcell_row (e.trans c1)]; rfl)
  have cell1 : ∀ h', row h' C.w = row h1 C.w → Rd P h' (Instr.loadAt T.Sl_int (.pointer (some ⟨C.w, 1, none⟩))) (.slice ta S.trail.length tc) := fun h' e => Rd_ld sc_Sl_int (by rw [hcell_row (e.trans c1)]; rw [hlm]; rfl)
  refine ⟨fun h' => row h' C.w = row h1 C.w, rfl, qs_of (fun h' e => cell2 h' e) ⟨fun h' => row h' C.w = row h1 C.w, rfl, qs_of (fun h' e => cell1 h' e) ?_⟩⟩
  simp only [qln_Sl_int]
  have fw : ∀ h', Fr2 h1 h' [] → row h' C.w = row h1 C.w := fun h' f => by rw [c1]; exact f.row c1 (by simp)
  refine appZ (fun h1' X => row h1' C.w = row h1 C.w ∧ row h1' C.w = row h1 C.w ∧ X) sl_Sl_int ti_int c3 rfl (by omega) (by simp; omega) W1.fresh (fun h2 X f hX => ⟨fw h2 f, fw h2 f, hX⟩) fun v' ha κ' F hT f hF hκ hfr hnew => ?_
  have hwF : C.w ∉ F := fun hb => by have := (hF _ hb).1; rw [W.kw] at this; cases this
  have r1 := f.row c1 hwF
  refine ⟨by rw [r1, c1], ?_⟩
  refine sem_st1 ti_Sl_int r1 (by simp) ?_ ?_
  · obtain ⟨bs, o1, _⟩ := hT
    rcases o1 with ⟨rfl, _⟩ | ⟨_, _, _, _, rfl, _⟩ <;> rfl
  simp only [List.set_cons_succ, List.set_cons_zero]
  have f2 : ∀ l, Fr2 h1 (hput ha C.w l) (C.w :: F) := fun l => (f.mono fun b hb => List.mem_cons_of_mem _ hb).put (.inl (by simp))
  have hFk : ∀ b ∈ C.w :: F, κ b = .watch ∨ κ b = .starts := fun b hb => by
    rcases List.mem_cons.1 hb with rfl | hb
    · exact .inl W.kw
    · exact .inr (hF b hb).1
  have W2 := W1.startsUpd (ss := S.starts ++ [S.trail.length]) (sv' := v') c1 (f2 _) hFk hκ (fun b hb => by rw [size_hput] at hb; exact hfr b hb) (fun b hb e => by rcases hnew b hb with h | h <;> rw [h] at e <;> cases e) (hput_same r1) (by
    rw [List.map_append]
    refine hT.frame (F := [C.w]) ((Fr2.refl _ _).put (.inl (by simp))) (fun b hb => ?_) fun _ _ => rfl
    simp at hb; subst hb
    rw [hκ _ (W1.lt (by rw [W.kw]; nofun)), W.kw]; nofun)
  have N2 : ∀ l, Nx none h1 κ (hput ha C.w l) κ' := fun l => Nx.of (f2 l) hκ fun b hb hfre => by
    rcases hFk b hb with e | e <;> rw [e] at hfre <;> rcases hfre with hfre | ⟨_, _, hfre⟩ <;> cases hfre
  -- the start stands at the trail's end: the invariant holds again behind the next literal
  have V' := (V.put l0 lR hz' ht).1
  have V2 : VS C { { S with vals := setV S.vals l, trail := S.trail ++ [l] } with starts := S.starts ++ [S.trail.length] } := { V' with
    st := by
      show (S.starts ++ [S.trail.length]).Pairwise (· < ·)
      refine List.pairwise_append.2 ⟨V.st, by simp, fun a ha b hb => ?_⟩
      simp at hb; subst hb; exact V.sl a ha
    sl := fun s hs => by
      show s < (S.trail ++ [l]).length
      rcases List.mem_append.1 hs with h | h
      · have := V.sl s h; simp; omega
      · simp at h; subst h; simp }
  refine k_put' S.starts W2 V l0 lR hz' ht fun h3 κ3 W3 N3 => ?_
  obtain ⟨tv3, sv3, lo3, d1, _⟩ := W3.cells
  refine sem_st1 ti_bool d1 (by simp) rfl ?_
  simp only [List.set_cons_succ, List.set_cons_zero]
  obtain ⟨W4, N4, _⟩ := WI.scal S.head false S.clash W3 d1
  exact hk 0 _ κ3 _ W4 { V2 with } ((Nx.new f1).trans ((N2 _).trans (N3.trans N4))) rfl
end Go.Proofs.Ytihbhklcnbdijaa
