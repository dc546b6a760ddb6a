/- The walk: watch, visits. -/
import Derived.Test.YtihbhklcnbdijaaWatchB
set_option linter.unusedSimpArgs false
set_option linter.unusedVariables false
namespace Go.Proofs.Ytihbhklcnbdijaa
open Go

/-- An empty literal. -/
theorem sem_bs0 {P : Program} {h : Heap} {t e : Nat} {n by_ : Nat} {z : List Value} {k : Value → Heap → Prop} (hs : SlT P t e) (ht : TI P e z n by_) (hk : k (.slice (some ⟨h.size, 0, none⟩) 0 0) (hnew h [] e)) : sem P (Instr.buildSlice t 0 #[]) h k := by
  intro w hw
  subst hw
  obtain ⟨i, zv, hi, hz, hzl, hsz, _⟩ := ht.ex
  refine ⟨.slice (some ⟨w.heap.size, 0, none⟩) 0 0, { w with heap := w.heap.push (.cells #[] e) }, ?_, ⟨rfl, rfl, rfl, Nat.le_refl _⟩, hk⟩
  have h1 := run_underlying hs w
  simp [Instr.buildSlice, h1, sizeOf, typeInfo, hi, Instr.fill, newRow]
  congr 2
  apply Array.ext'
  simp
theorem k_CloneP {xs : List Value} {v : Value} {h : Heap} (hx : Src h 1 v xs) (hsc : ∀ y ∈ xs, sc1 y = true) (hn : xs.length < 2199023255551) {Q : Value → Heap → Prop}
    (hk : ∀ v' h' bs, Own h' 1 v' bs xs → Fr2 h h' [] → (∀ b ∈ bs, h.size ≤ b) → Q v' h') : callF P F.slices_Clone_watch_held [v] h Q := by
  refine ok_slices_Clone_watch_held ?_
  obtain ⟨a, m, c, rfl, hl, hy⟩ := hx
  unfold t_slices_Clone_watch_held
  simp only [sn_Sl_P_watch_held, br_bool]
  refine ⟨fun hnil => ?_, fun hnn => ?_⟩
  · have : a = none := by simpa using hnil
    subst this
    have : xs = [] := by
      rcases hy with rfl | ⟨b, o, e, _⟩
      · simpa using hl
      · cases e
    subst this
    exact hk _ _ [] (Own.nil h 1) (Fr2.refl _ _) (by simp)
  · refine sem_bs0 sl_Sl_P_watch_held ti_P_watch_held ?_
    have f0 : Fr2 h (hnew h [] T.P_watch_held) [] := (Fr2.refl h []).new
    have o0 : Own (hnew h [] T.P_watch_held) 1 (.slice (some ⟨h.size, 0, none⟩) 0 0) [h.size] [] := .inr ⟨h.size, 0, 0, [], rfl, rfl, rfl, Nat.le_refl _, row_hnew_new, rfl⟩
    refine sem_append sl_Sl_P_watch_held ti_P_watch_held rfl o0 (Src.keep ⟨a, m, c, rfl, hl, hy⟩ f0) hsc (by omega) (by simp; omega) (by simp; omega) fun v' h' bs' h1 h2 h3 => ?_
    refine hk v' h' bs' (by simpa using h1) (f0.trans h2 fun b hb => .inr (by simp at hb; omega)) fun b hb => ?_
    rcases h3 b hb with h | h
    · simp at h; omega
    · rw [size_hnew] at h; omega
theorem sem_clear_nil {P : Program} {h : Heap} {t e ty : Nat} {k : Value → Heap → Prop} (hs : SlT P t e) (hk : k (.tuple #[]) h) : sem P (Builtin.clear_ #[t] ty #[.slice none 0 0]) h k := by
  intro w hw
  subst hw
  have h1 := run_underlying hs w
  exact ⟨.tuple #[], w, by simp [Builtin.clear_, h1], Sm.refl w, hk⟩
/-- One list is nobody's now. -/
theorem WI.open {C : WC} {κ : Nat → Kind} {S : WS} {h : Heap} {i e : Nat} (W : WI C κ none S h) : WI C κ (some i) { S with lens := S.lens.set i 0, ex := e } h := by
  refine ⟨W.kw, W.kv, W.kl, W.fresh, W.cells, W.vals, ?_, W.helds⟩
  obtain ⟨lvs, l1, l2, l3⟩ := W.lists
  refine ⟨lvs, l1, l2, fun j hj hh => ?_⟩
  obtain ⟨v, hs, a1, a2, a3, a4⟩ := l3 j hj nofun
  refine ⟨v, hs, a1, a2, a3, ?_⟩
  show (S.lens.set i 0)[j]? = _
  rw [List.getElem?_set, if_neg (fun e => hh (by rw [e]))]; exact a4
/-- What is nobody's may turn. -/
theorem WI.hole {C : WC} {κ κ' : Nat → Kind} {S : WS} {h h' : Heap} {i : Nat} {F : List Nat} (W : WI C κ (some i) S h) (f : Fr2 h h' F) (hF : ∀ b ∈ F, κ b = .list i) (hκ : Ext h κ κ') (hfr : ∀ b, h'.size ≤ b → κ' b = .none) (hnew : ∀ b, h.size ≤ b → κ' b ≠ .held) : WI C κ' (some i) S h' := by
  obtain ⟨tv, sv, lo, h1, h2, h3, h4, h5, hlo⟩ := W.cells
  obtain ⟨lvs, l1, l2, l3⟩ := W.lists
  have ne : ∀ k : Kind, k ≠ .list i → ∀ b ∈ F, κ b ≠ k := fun k a x hx e => a (by rw [← e, hF x hx])
  have hheld : ∀ x, κ x = .held → κ' x = .held := fun x hx => by rw [hκ x (W.lt (by rw [hx]; nofun))]; exact hx
  refine ⟨?_, ?_, ?_, hfr, ⟨tv, sv, lo, f.row h1 (fun hb => ne .watch nofun _ hb W.kw), h2.frame f (ne _ nofun) hκ, h3.frame f (ne _ nofun) hκ, h4.frame f (ne _ nofun) hκ, fun x hx => hheld x (h5 x hx), hlo⟩, f.row W.vals (fun hb => ne .vals nofun _ hb W.kv), ⟨lvs, f.row l1 (fun hb => ne .lists nofun _ hb W.kl), l2, fun j hj hho => ?_⟩, fun x hx => ?_⟩
  · rw [hκ _ (W.lt (by rw [W.kw]; nofun))]; exact W.kw
  · rw [hκ _ (W.lt (by rw [W.kv]; nofun))]; exact W.kv
  · rw [hκ _ (W.lt (by rw [W.kl]; nofun))]; exact W.kl
  · obtain ⟨v, hs2, a1, a2, a3, a4⟩ := l3 j hj hho
    exact ⟨v, hs2, a1, a2.frame f (ne (.list j) (fun e => hho (by injection e with e; rw [e]))) hκ, fun x hx => hheld x (a3 x hx), a4⟩
  · rcases Nat.lt_or_ge x h.size with hx' | hx'
    · have hx2 : κ x = .held := by rw [← hκ x hx']; exact hx
      exact (W.helds x hx2).frame f (fun hb => ne .held nofun _ hb hx2) (ne .lits nofun) hκ
    · exact absurd hx (hnew x hx')
/-- More is known. -/
structure Gr (C : WC) (S S' : WS) : Prop where
  starts : S'.starts = S.starts
  head : S'.head = S.head
  loose : S'.loose = S.loose
  rest : S'.rest = S.rest
  clash : S'.clash = S.clash
  K : S'.K = S.K
  lo : S'.lo = S.lo
  trail : ∃ t, S'.trail = S.trail ++ t
  zs : zeros S'.vals + S'.trail.length = zeros S.vals + S.trail.length
  stay : ∀ y, inR C.n y → valOf S.vals y ≠ 0 → valOf S'.vals y = valOf S.vals y
theorem Gr.refl (C : WC) (S : WS) : Gr C S S := ⟨rfl, rfl, rfl, rfl, rfl, rfl, rfl, ⟨[], by simp⟩, rfl, fun _ _ _ => rfl⟩
theorem Gr.trans {C : WC} {S S' S'' : WS} (a : Gr C S S') (b : Gr C S' S'') : Gr C S S'' := by
  obtain ⟨t, ht⟩ := a.trail
  obtain ⟨u, hu⟩ := b.trail
  exact ⟨b.starts.trans a.starts, b.head.trans a.head, b.loose.trans a.loose, b.rest.trans a.rest, b.clash.trans a.clash, b.K.trans a.K, b.lo.trans a.lo, ⟨t ++ u, by rw [hu, ht, List.append_assoc]⟩, b.zs.trans a.zs, fun y hy hv => by
    rw [b.stay y hy (by rw [a.stay y hy hv]; exact hv), a.stay y hy hv]⟩
theorem Gr.same {C : WC} {S : WS} {L : List Nat} {e : Nat} : Gr C S { S with lens := L, ex := e } := ⟨rfl, rfl, rfl, rfl, rfl, rfl, rfl, ⟨[], by simp⟩, rfl, fun _ _ _ => rfl⟩
theorem valOf_setV {C : WC} {S : WS} (V : VS C S) {l y : Int} (hl : inR C.n l) (hv : valOf S.vals l = 0) (hy : inR C.n y) (hvy : valOf S.vals y ≠ 0) : valOf (setV S.vals l) y = valOf S.vals y := by
  have hlen := V.len
  unfold inR at hl hy
  have ix : ∀ z : Int, z.natAbs = (if z < 0 then (-z).toNat else z.toNat) := fun z => by split <;> omega
  have vn : ∀ z : Int, valOf S.vals z = if z < 0 then -(S.vals.getD z.natAbs 0) else S.vals.getD z.natAbs 0 := fun z => by
    unfold valOf
    split <;> simp only [ix, *, if_true, if_false]
  have hne : y.natAbs ≠ l.natAbs := fun e => by
    rw [vn] at hv hvy
    rw [e] at hvy
    split at hv <;> split at hvy <;> omega
  have hs : ∀ j, j ≠ l.natAbs → (setV S.vals l).getD j 0 = S.vals.getD j 0 := fun j hj => by
    unfold setV
    split <;> simp only [List.getD_eq_getElem?_getD, List.getElem?_set] <;> rw [if_neg (by omega)]
  unfold valOf
  split
  · rw [hs _ (by omega)]
  · rw [hs _ (by omega)]
theorem Gr.put {C : WC} {S : WS} (V : VS C S) {l : Int} (h0 : l ≠ 0) (hl : inR C.n l) (hv : valOf S.vals l = 0) (ht : tru C.m l = true) : Gr C S { S with vals := setV S.vals l, trail := S.trail ++ [l] } := by
  have := (V.put h0 hl hv ht).2
  refine ⟨rfl, rfl, rfl, rfl, rfl, rfl, rfl, ⟨[l], rfl⟩, ?_, fun y hy hvy => valOf_setV V hl hv hy hvy⟩
  show zeros (setV S.vals l) + (S.trail ++ [l]).length = _
  simp; omega
theorem src_none {h : Heap} {xs : List Value} {n c : Nat} (hx : Src h 1 (.slice none n c) xs) : xs = [] := by
  obtain ⟨a, m, c', e, hl, hy⟩ := hx
  injection e with e1 e2 e3
  subst e1 e2
  rcases hy with rfl | ⟨b, o, e, _⟩
  · simpa using hl
  · cases e
theorem pt_sc {hs : List Nat} : ∀ y ∈ hs.map pt, sc1 y = true := fun y hy => by
  obtain ⟨x, _, rfl⟩ := List.mem_map.1 hy; rfl
theorem Own.keepB {h h' : Heap} {sz : Nat} {v : Value} {bs : List Nat} {xs : List Value} (ho : Own h sz v bs xs) (hk : ∀ b ∈ bs, h'[b]? = h[b]?) : Own h' sz v bs xs := by
  rcases ho with h | ⟨b, n, c, rest, hv, rfl, hl, hn, hr, hrl⟩
  · exact .inl h
  · refine .inr ⟨b, n, c, rest, hv, rfl, hl, hn, ?_, hrl⟩
    unfold row at hr ⊢
    rw [hk b (by simp)]; exact hr
theorem clearK {h : Heap} {v : Value} {bs : List Nat} {hs : List Nat} {ty : Nat} {k : Value → Heap → Prop} (ho : Own h 1 v bs (hs.map pt)) (hk : ∀ h3 a c, v = .slice a hs.length c → Own h3 1 (.slice a 0 c) bs [] → Fr2 h h3 bs → k (.tuple #[]) h3) :
    sem P (Builtin.clear_ #[T.Sl_P_watch_held] ty #[v]) h k := by
  rcases ho with ⟨rfl, hx, rfl⟩ | ⟨b, n, c, rest, rfl, rfl, hl, hnc, hr, hrl⟩
  · have : hs = [] := by simpa using hx
    subst this
    exact sem_clear_nil sl_Sl_P_watch_held (hk h none 0 rfl (Own.nil h 1) (Fr2.refl _ _))
  · have hn : n = hs.length := by simpa using hl.symm
    subst hn
    refine sem_clear sl_Sl_P_watch_held ti_P_watch_held rfl hr (by simp) (by simp [sc1]) (by omega) fun zs hz _ => ?_
    exact hk _ (some ⟨b, 0, none⟩) c rfl (.inr ⟨b, 0, c, _, rfl, rfl, rfl, Nat.zero_le _, by rw [List.nil_append]; exact hput_same hr, by simp [lput, hz, hrl]; omega⟩) ((Fr2.refl _ _).put (.inl (by simp)))
theorem k_visit {C : WC} {κ : Nat → Kind} {S : WS} {h : Heap} {l : Int} (W : WI C κ none S h) (V : VS C S) (h0 : l ≠ 0) (hl : inR C.n l) (hv : tru C.m l = false) {Q : Value → Heap → Prop}
    (hk : ∀ h' κ' S', WI C κ' none S' h' → VS C S' → Nx none h κ h' κ' → Gr C S S' → Q (.bool true) h') : callF P F.watch_Watch_visit [pt C.w, I l] h Q := by
  refine ok_watch_Watch_visit ?_
  obtain ⟨tv, sv, lo, h1, _⟩ := W.cells
  obtain ⟨lvs, l1, l2, l3⟩ := W.lists
  obtain ⟨i, hi, hlt0⟩ := ixOf_lt h0 hl V.n20
  obtain ⟨v, hs, a1, ⟨vb, a2, a2k⟩, a3, a4⟩ := l3 i hlt0 nofun
  have hb : hs.length < 1099511627775 * 2 := by
    have := mem_le_sum a4; have := V.sum; have := V.kb; omega
  unfold t_watch_Watch_visit
  simp only [okNil_ptr, true_and, fa_watch_Watch_lists, Nat.zero_add, k_Index, hi, rd_ldr h1 sc_Sl_Sl_P_watch_held, List.getElem?_cons_zero, List.getElem?_cons_succ, optK_some]
  rw [ix_Sl_Sl_P_watch_held hlt0, Nat.zero_add, Nat.mul_one, rd_ldr l1 sc_Sl_P_watch_held, a1, optK_some]
  refine k_CloneP a2.src pt_sc (by simp; omega) fun cl h2 cb hc f2 hcb => ?_
  have W2 := W.keep f2
  have r2 := f2.row h1 (by simp)
  have rl2 := f2.row l1 (by simp)
  simp only [rd_ldr r2 sc_Sl_Sl_P_watch_held, List.getElem?_cons_zero, List.getElem?_cons_succ, optK_some]
  rw [ix_Sl_Sl_P_watch_held hlt0, Nat.zero_add, Nat.mul_one, rd_ldr rl2 sc_Sl_P_watch_held, a1, optK_some]
  have o2 : Own h2 1 v vb (hs.map pt) := a2.frame f2 (by simp)
  refine clearK o2 fun h3 a c ev hown f3 => ?_
  have W3 : WI C κ (some i) { S with lens := S.lens.set i 0, ex := S.ex + hs.length } h3 := W2.open.hole f3 (fun b hb => a2k b hb) (Ext.refl _ _) (fun b hb => W2.fresh b (Nat.le_trans f3.size hb)) (fun b hb e => by rw [W2.fresh b hb] at e; cases e)
  have N3 : Nx none h κ h3 κ := (Nx.new f2).trans (Nx.of f3 (Ext.refl _ _) fun b hb hfre => by
    rw [a2k b hb] at hfre
    rcases hfre with hfre | ⟨_, e, _⟩
    · cases hfre
    · cases e)
  have hcv : ∀ b ∈ cb, κ b = .none ∧ b < h2.size := fun b hb => ⟨W.fresh b (hcb b hb), hc.lt b hb⟩
  have oc3 : Own h3 1 cl cb (hs.map pt) := hc.frame f3 fun b hb hb' => by
    have := (hcv b hb).1; rw [a2k b hb'] at this; cases this
  have r3 := f3.row r2 (fun hb => by have := a2k _ hb; rw [W.kw] at this; cases this)
  have rl3 := f3.row rl2 (fun hb => by have := a2k _ hb; rw [W.kl] at this; cases this)
  simp only [rd_ldr r3 sc_Sl_Sl_P_watch_held, List.getElem?_cons_zero, List.getElem?_cons_succ, optK_some]
  rw [ix_Sl_Sl_P_watch_held hlt0, Nat.zero_add, Nat.mul_one, rd_ldr rl3 sc_Sl_P_watch_held, a1, optK_some, ev]
  have ha : a = none ∨ ∃ b o, a = some ⟨b, o, none⟩ := by
    rcases o2 with ⟨e, _⟩ | ⟨b, n, c', rest, e, _⟩
    · rw [ev] at e; injection e with e; exact .inl e
    · rw [ev] at e; injection e with e; exact .inr ⟨b, 0, e⟩
  rw [show (.int .i64 0 : Value) = .int .i64 ((0 : Nat) : Int) from rfl, rd_sl_hi el_Sl_P_watch_held (Nat.zero_le _) ha]
  obtain ⟨ca, cc, rfl, hgc⟩ := Src.form oc3.src
  simp only [List.length_map, ln_Sl_P_watch_held]
  have V3 : VS C { S with lens := S.lens.set i 0, ex := S.ex + hs.length } := by
    refine { V with sum := ?_, ll := ?_ }
    · show (S.lens.set i 0).sum + 2 * S.loose.length + (S.ex + hs.length) ≤ 2 * S.K
      have := sum_set (x := 0) a4
      have := V.sum; omega
    · show (S.lens.set i 0).length = _
      rw [List.length_set]; exact V.ll
  refine lp3_of (fun st ok z h' => ∃ (j : Nat) (κ' : Nat → Kind) (S' : WS) (ss : List Nat), z = I j ∧ ok = .bool true ∧ j ≤ hs.length ∧ WI C κ' (some i) S' h' ∧ VS C S' ∧ Nx none h3 κ h' κ' ∧ OwnK h' κ' (.list i) st (ss.map pt) ∧ (∀ x ∈ ss, κ' x = .held) ∧ Gr C S S' ∧ S'.ex = S.ex + (hs.length - j) + ss.length ∧ Own h' 1 (.slice ca (hs.map pt).length cc) cb (hs.map pt)) (fun _ _ z _ => hs.length - iv z) ?_ ?_
  · exact ⟨0, κ, _, [], rfl, rfl, Nat.zero_le _, W3, V3, Nx.refl _ _ _, ⟨vb, hown, a2k⟩, by simp, Gr.same, by simp, oc3⟩
  rintro st ok z g h' ⟨j, κ', S', ss, rfl, rfl, hj, W', V', N', ⟨sb, so, sk⟩, ssk, G', ex', oc'⟩ k hk'
  have hlt2 : (hs.map pt).length = hs.length := List.length_map _
  simp only [rd_lss, br_bool]
  refine ⟨fun hlt => ?_, fun hge => ?_⟩
  rotate_left
  · -- the end: what stays is laid back
    have hjn : j = hs.length := by have : ¬ (j < hs.length) := by simpa using hge
                                   omega
    obtain ⟨tv', sv', lo', c1, _⟩ := W'.cells
    obtain ⟨lvs', m1, m2, _⟩ := W'.lists
    simp only [okNil_ptr, true_and, fa_watch_Watch_lists, Nat.zero_add, rd_ldr c1 sc_Sl_Sl_P_watch_held, List.getElem?_cons_zero, List.getElem?_cons_succ, optK_some]
    rw [ix_Sl_Sl_P_watch_held hlt0, Nat.zero_add, Nat.mul_one]
    refine sem_st1 ti_Sl_P_watch_held m1 (by omega) ?_ ?_
    · rcases so with ⟨rfl, _⟩ | ⟨_, _, _, _, rfl, _⟩ <;> rfl
    have f4 : Fr2 h' (hput h' C.lb (lvs'.set i st)) [C.lb] := (Fr2.refl _ _).put (.inl (by simp))
    have hget : ∃ y, S'.lens[i]? = some y := ⟨_, List.getElem?_eq_getElem (by rw [V'.ll]; exact hlt0)⟩
    obtain ⟨y, hy⟩ := hget
    have hse := sum_set (x := ss.length) hy
    refine hk _ κ' { S' with lens := S'.lens.set i ss.length, ex := S.ex } (W'.listUpd (F := [C.lb]) (o' := none) (i := i) (v' := st) V' f4 (fun b hb => by simp at hb; subst hb; exact .inl W'.kl) (Ext.refl _ _) (fun b hb => by rw [size_hput] at hb; exact W'.fresh b hb) (fun b hb e => by rw [W'.fresh b hb] at e; cases e) hlt0 (fun q _ => ?_) (fun lvs2 e => ?_) ?_ ssk) ?_ (N3.trans (N'.trans (Nx.of f4 (Ext.refl _ _) fun b hb hfre => ?_))) (G'.trans Gr.same)
    · by_cases e : q = i
      · exact .inr e
      · exact .inl (fun h => e (by injection h))
    · rw [m1] at e; injection e with e; subst e; exact hput_same m1
    · exact OwnK.frame ⟨sb, so, sk⟩ f4 (fun b hb e => by simp at hb; subst hb; rw [W'.kl] at e; cases e) fun _ _ => rfl
    · refine { V' with sum := ?_, ll := ?_ }
      · show (S'.lens.set i ss.length).sum + 2 * S'.loose.length + S.ex ≤ 2 * S'.K
        have := V'.sum; omega
      · show (S'.lens.set i ss.length).length = _
        rw [List.length_set]; exact V'.ll
    · simp at hb; subst hb; rw [W'.kl] at hfre
      rcases hfre with hfre | ⟨_, e, _⟩
      · cases hfre
      · cases e
  have hlt' : j < hs.length := by simpa using hlt
  obtain ⟨ca', cc', e', hgc'⟩ := Src.form oc'.src
  injection e' with e1 e2 e3
  subst e1 e3
  refine jn_intro fun K hK => ?_
  have hv' := hv
  have hcb' : ∀ b ∈ cb, κ' b = .none ∧ b < h'.size := fun b hb => ⟨by rw [N'.ext b (by have := (hcv b hb).2; have := f3.size; omega)]; exact (hcv b hb).1, oc'.lt b hb⟩
  have hsz3 : h.size ≤ h3.size := N3.size
  have keyK : ∀ (h5 : Heap) (κ5 : Nat → Kind) (S5 : WS) (ss5 : List Nat) (st5 : Value), WI C κ5 (some i) S5 h5 → VS C S5 → Nx none h' κ' h5 κ5 → OwnK h5 κ5 (.list i) st5 (ss5.map pt) → (∀ x ∈ ss5, κ5 x = .held) → Gr C S S5 → S5.ex = S.ex + (hs.length - (j + 1)) + ss5.length → K st5 (.bool true) h5 := by
    intro h5 κ5 S5 ss5 st5 a b c d e f g
    rw [hK]
    simp only [rd_add]
    rw [wrap_succ (by omega)]
    exact hk' _ _ _ _ ⟨j + 1, κ5, S5, ss5, rfl, rfl, hlt', a, b, N'.trans c, d, e, f, g, oc'.keepB fun b hb => c.keep b (hcb' b hb).2 (.inl (hcb' b hb).1)⟩ (by simp only [iv, Int.toNat_natCast]; omega)
  clear hk' hk
  obtain ⟨bq, oq, rfl, hcq⟩ := hgc' j (by rw [hlt2]; exact hlt')
  have hx0 : κ hs[j] = .held := a3 _ (List.getElem_mem hlt')
  have hx : κ' hs[j] = .held := by rw [N'.ext _ (by have := W.lt (b := hs[j]) (by rw [hx0]; nofun); omega)]; exact hx0
  rw [ix_Sl_P_watch_held hlt', Nat.mul_one, rd_ld hcq sc_P_watch_held]
  simp only [List.getElem_map]
  generalize hs[j] = x at *
  simp only [isB_tt, gq_true, gd_true, ex_bool, cond_true, okNil_ptr, true_and, fa_watch_held_at, Nat.zero_add]
  refine k_moved W' V' hx (by omega) h0 hl hv' (fun q e => by injection e with e; rw [e]; exact hi) (fun h6 κ6 L6 W6 V6 N6 => ?_) (fun lv a b hr hob hcase => ?_)
  · -- it is watched elsewhere
    simp only [br_bool]
    refine ⟨fun _ => keyK h6 κ6 _ ss st W6 V6 N6.none ⟨sb, so.keepB fun b hb => N6.keep b (so.lt b hb) (.inr ⟨i, rfl, sk b hb⟩), fun b hb => by rw [N6.ext b (so.lt b hb)]; exact sk b hb⟩ (fun y hy => by rw [N6.ext y (W'.lt (by rw [ssk y hy]; nofun))]; exact ssk y hy) (G'.trans Gr.same) (by show S'.ex - 1 = _; omega), nofun⟩
  simp only [br_bool]
  refine ⟨nofun, fun _ => ?_⟩
  have hsl : ss.length < 1099511627775 * 2 := by have := V'.sum; have := V'.kb; omega
  refine appK sl_Sl_P_watch_held ti_P_watch_held ⟨sb, so, sk⟩ rfl (by omega) (by simp; omega) W'.fresh fun st7 h7 κ7 F7 o7 f7 hF7 e7 fr7 n7 => ?_
  have W7 : WI C κ7 (some i) S' h7 := W'.hole f7 (fun b hb => (hF7 b hb).1) e7 fr7 (fun b hb e => by rcases n7 b hb with h | h <;> rw [h] at e <;> cases e)
  have N7 : Nx none h' κ' h7 κ7 := Nx.of f7 e7 fun b hb hfre => by
    rw [(hF7 b hb).1] at hfre
    rcases hfre with hfre | ⟨_, e, _⟩
    · cases hfre
    · cases e
  have hheld7 : ∀ y ∈ ss ++ [x], κ7 y = .held := fun y hy => by
    have : κ' y = .held := by
      rcases List.mem_append.1 hy with h | h
      · exact ssk y h
      · simp at h; subst h; exact hx
    rw [e7 y (W'.lt (by rw [this]; nofun))]; exact this
  have hxF : x ∉ F7 := fun hb => by have := (hF7 x hb).1; rw [hx] at this; cases this
  have r7 := f7.row hr hxF
  have o7' : OwnK h7 κ7 (.list i) st7 ((ss ++ [x]).map pt) := by rw [List.map_append]; exact o7
  have key7 : K st7 (.bool true) h7 := keyK h7 κ7 S' (ss ++ [x]) st7 W7 V' N7 o7' hheld7 G' (by rw [ex']; simp; omega)
  simp only [rd_not, br_bool, Bool.not_true]
  refine ⟨nofun, fun _ => ?_⟩
  have z0 : (.int .i64 ((0 : Nat) : Int) : Value) = I ((0 : Nat) : Int) := rfl
  have z1 : (.int .i64 1 : Value) = I ((1 : Nat) : Int) := rfl
  rw [rd_ixa ar_Ar2_int (show 0 < 2 by omega), rd_ldr r7 sc_int]
  simp only [Nat.zero_mul, Nat.add_zero, List.getElem?_cons_zero, List.getElem?_cons_succ, optK_some]
  refine jn_intro fun K2 hK2 => ?_
  have key2 : K2 (I (oth l a b)) h7 := by
    rw [hK2]
    generalize oth l a b = ot at *
    rw [k_of W7 V' hob]
    simp only [rd_eql, br_bool]
    have hnf : valOf S'.vals ot ≠ -1 := fun e => by
      rcases hcase with h | ⟨h, ht⟩
      · omega
      · rw [V'.false h hob e] at ht; cases ht
    refine ⟨fun e => absurd (by simpa using e) hnf, fun _ => ⟨fun e => ?_, fun _ => key7⟩⟩
    have e' : valOf S'.vals ot = 0 := by simpa using e
    obtain ⟨hot0, hott⟩ := hcase.resolve_left (by omega)
    refine k_put W7 V' hot0 hob e' hott fun h8 κ8 W8 N8 => ?_
    obtain ⟨b7, p7, q7⟩ := o7'
    refine keyK h8 κ8 _ (ss ++ [x]) st7 W8 (V'.put hot0 hob e' hott).1 (N7.trans N8.none) ⟨b7, p7.keepB fun b hb => N8.keep b (p7.lt b hb) (.inr ⟨i, rfl, q7 b hb⟩), fun b hb => by rw [N8.ext b (p7.lt b hb)]; exact q7 b hb⟩ (fun y hy => by rw [N8.ext y (W7.lt (by rw [hheld7 y hy]; nofun))]; exact hheld7 y hy) (G'.trans (Gr.put V' hot0 hob e' hott)) (by show S'.ex = _; rw [ex']; simp; omega)
  simp only [rd_eql, br_bool]
  refine ⟨fun e => ?_, fun e => ?_⟩
  · have e1 : a = l := by simpa using e
    rw [z1, rd_ixa ar_Ar2_int (show 1 < 2 by omega), Nat.one_mul, rd_ldr r7 sc_int]
    simp only [List.getElem?_cons_zero, List.getElem?_cons_succ, optK_some]
    have : oth l a b = b := by simp [oth, e1]
    rw [this] at key2; exact key2
  · have e1 : ¬ a = l := by simpa using e
    have : oth l a b = a := by simp [oth, e1]
    rw [this] at key2; exact key2
end Go.Proofs.Ytihbhklcnbdijaa
