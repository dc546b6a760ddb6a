/- The walk: the law WatchFollows. -/
import Derived.Test.YtihbhklcnbdijaaWatchI
set_option linter.unusedSimpArgs false
set_option linter.unusedVariables false
namespace Go.Proofs.Ytihbhklcnbdijaa
open Go

/-- Steps, as they lie. -/
structure Stp where
  kind : Int
  lit : Int
  lits : List Int
def Steps (h : Heap) (v : Value) (ss : List Stp) : Prop := ∃ a c, v = .slice a ss.length c ∧ ∀ i (hi : i < ss.length), ∃ b o u, a = some ⟨b, o, none⟩ ∧ hcell h ⟨b, o + i * 4, none⟩ = some (I ss[i].kind) ∧ hcell h ⟨b, o + i * 4 + 2, none⟩ = some (I ss[i].lit) ∧ hcell h ⟨b, o + i * 4 + 3, none⟩ = some u ∧ Ints h u ss[i].lits
theorem Steps.keep {h h' : Heap} {v : Value} {ss : List Stp} (hx : Steps h v ss) (f : Fr2 h h' []) : Steps h' v ss := by
  obtain ⟨a, c, e, hg⟩ := hx
  refine ⟨a, c, e, fun i hi => ?_⟩
  obtain ⟨b, o, u, e1, e2, e3, e4, e5⟩ := hg i hi
  exact ⟨b, o, u, e1, f.cell e2 (by simp), f.cell e3 (by simp), f.cell e4 (by simp), e5.keep f⟩
def in64 (l : Int) : Prop := -9223372036854775808 ≤ l ∧ l ≤ 9223372036854775807
/-- The clauses kept so far: memory of the law's own. -/
structure Kp (h0 : Heap) (fb ab : Nat) (n : Int) (cv : Value) (ds : List (List Int)) (κ : Nat → Kind) (h : Heap) : Prop where
  fr : Fr2 h0 h []
  f : row h fb = some [I n, cv]
  old : ∀ b, b < h0.size → κ b = .none
  kf : κ fb = .watch
  ka : κ ab = .watch
  ne : fb ≠ ab
  fresh : ∀ b, h.size ≤ b → κ b = .none
  a : ∃ lv vs, row h ab = some [I n, lv] ∧ OwnK h κ .lists lv vs ∧ vs.length = ds.length ∧ (∀ v ∈ vs, sc1 v = true) ∧ ∀ i (h1 : i < vs.length) (h2 : i < ds.length), OwnK h κ .lits vs[i] (ds[i].map I)
theorem Kp.rows {h0 : Heap} {fb ab : Nat} {n : Int} {cv : Value} {ds : List (List Int)} {κ : Nat → Kind} {h : Heap} (K : Kp h0 fb ab n cv ds κ h) : ∃ lv, row h ab = some [I n, lv] ∧ Rows h lv ds := by
  obtain ⟨lv, vs, h1, ⟨bs, h2, _⟩, h3, _, h4⟩ := K.a
  exact ⟨lv, h1, vs, h2.src, h3, fun i a b => by obtain ⟨q, q1, _⟩ := h4 i a b; exact q1.src⟩
theorem k_WatchFollows {n : Int} {cv mv sv : Value} {cs : List (List Int)} {m : List Bool} {ss : List Stp} {h : Heap} (hc : Rows h cv cs) (hm : Bls h mv m) (hs : Steps h sv ss) (b1 : cs.length ≤ 1048576) (b2 : ∀ c ∈ cs, c.length ≤ 1048576) (b3 : m.length ≤ 1048576) (b4 : ss.length ≤ 1048576) (b5 : ∀ s ∈ ss, s.lits.length ≤ 1048576)
    (w1 : ∀ c ∈ cs, ∀ l ∈ c, in64 l) (w2 : ∀ s ∈ ss, in64 s.lit ∧ ∀ l ∈ s.lits, in64 l) {Q : Value → Heap → Prop} (hk : ∀ h', Fr2 h h' [] → Q (.bool true) h') : callF P F.depotlaw07_WatchFollows [.agg #[I n, cv], mv, sv] h Q := by
  refine ok_depotlaw07_WatchFollows ?_
  unfold t_depotlaw07_WatchFollows
  refine sem_box ?_
  have e0 : (Value.agg #[I n, cv]).cells.toList = [I n, cv] := rfl
  rw [e0]
  have f1 : Fr2 h (hnew h [I n, cv] T.api_Formula) [] := (Fr2.refl h []).new
  have r1 : row (hnew h [I n, cv] T.api_Formula) h.size = some [I n, cv] := row_hnew_new
  have s1 : (hnew h [I n, cv] T.api_Formula).size = h.size + 1 := size_hnew _ _ _
  generalize hnew h [I n, cv] T.api_Formula = h1 at f1 r1 s1
  simp only [fa_api_Formula_Vars, fa_api_Formula_Clauses, Nat.zero_add, rd_ldr r1 sc_int, List.getElem?_cons_zero, optK_some]
  rw [bd_api_Formula_0 rfl]
  refine sem_alloc ti_api_Formula ?_
  have f2 : Fr2 h1 (hnew h1 [.int .i64 0, .slice none 0 0] T.api_Formula) [] := (Fr2.refl h1 []).new
  have r2 : row (hnew h1 [.int .i64 0, .slice none 0 0] T.api_Formula) h1.size = some [.int .i64 0, .slice none 0 0] := row_hnew_new
  have s2 : (hnew h1 [.int .i64 0, .slice none 0 0] T.api_Formula).size = h1.size + 1 := size_hnew _ _ _
  generalize hnew h1 [.int .i64 0, .slice none 0 0] T.api_Formula = h2 at f2 r2 s2
  refine sem_st ti_api_Formula r2 rfl (by simp) (by intro v hv; simp [cells_agg] at hv; rcases hv with rfl | rfl <;> rfl) ?_
  have e3 : lput [.int .i64 0, .slice none 0 0] 0 (Value.agg #[I n, .slice none 0 0]).cells.toList = [I n, .slice none 0 0] := rfl
  rw [e3]
  have f3 : Fr2 h2 (hput h2 h1.size [I n, .slice none 0 0]) [h1.size] := (Fr2.refl _ _).put (.inl (by simp))
  have r3 : row (hput h2 h1.size [I n, .slice none 0 0]) h1.size = some [I n, .slice none 0 0] := hput_same r2
  have q3 : row (hput h2 h1.size [I n, .slice none 0 0]) h.size = some [I n, cv] := f3.row (f2.row r1 (by simp)) (by simp; omega)
  have s3 : (hput h2 h1.size [I n, .slice none 0 0]).size = h2.size := size_hput _ _ _
  have f03 : Fr2 h (hput h2 h1.size [I n, .slice none 0 0]) [] := (f1.trans f2 (by simp)).trans f3 (fun b hb => by simp at hb; right; omega)
  have K0 : Kp h h.size h1.size n cv [] (fun b => if b = h.size then .watch else if b = h1.size then .watch else .none) (hput h2 h1.size [I n, .slice none 0 0]) := by
    refine ⟨f03, q3, fun b hb => ?_, if_pos rfl, ?_, by omega, fun b hb => ?_, ⟨.slice none 0 0, [], r3, ⟨[], Own.nil _ 1, by simp⟩, rfl, by simp, fun i a _ => by simp at a⟩⟩
    · rw [if_neg (by omega), if_neg (by omega)]
    · show (if _ then _ else _) = _
      rw [if_neg (by omega), if_pos rfl]
    · rw [if_neg (by omega), if_neg (by omega)]
  generalize hput h2 h1.size [I n, .slice none 0 0] = h3 at K0
  clear r3 q3 f3 f03 e3 s3
  have hAB : h.size ≠ h1.size := by omega
  refine lp1_of (fun z h' => ∃ (i : Nat) (κ : Nat → Kind) (ds : List (List Int)), z = I i ∧ i ≤ cs.length ∧ Kp h h.size h1.size n cv ds κ h' ∧ ds.length ≤ i ∧ ∀ d ∈ ds, d ∈ cs ∧ hld m d = true) (fun z _ => cs.length - iv z) ⟨0, _, [], rfl, Nat.zero_le _, K0, Nat.le_refl _, by simp⟩ ?_
  rintro z g h4 ⟨i, κ, ds, rfl, hi, K4, hdl, hds⟩ k hk'
  have hc4 := hc.keep K4.fr
  have hm4 := hm.keep K4.fr
  obtain ⟨ca, cc, ecv, hgc⟩ := hc4.form
  subst ecv
  simp only [rd_ldr K4.f sc_Sl_Sl_int, List.getElem?_cons_zero, List.getElem?_cons_succ, optK_some]
  rw [ln_Sl_Sl_int]
  simp only [rd_lss, br_bool]
  refine ⟨fun hlt => ?_, fun hge => ?_⟩
  · have hlt' : i < cs.length := by simpa using hlt
    have hmem := List.getElem_mem hlt'
    refine jn_intro fun KK hKK => ?_
    have key : ∀ h5 κ5 ds5, Kp h h.size h1.size n (.slice ca cs.length cc) ds5 κ5 h5 → ds5.length ≤ i + 1 → (∀ d ∈ ds5, d ∈ cs ∧ hld m d = true) → KK h5 := by
      intro h5 κ5 ds5 a b c
      rw [hKK]
      simp only [rd_add]
      rw [wrap_succ (by omega)]
      exact hk' _ _ ⟨i + 1, κ5, ds5, rfl, hlt', a, b, c⟩ (by simp only [iv, Int.toNat_natCast]; omega)
    refine rows_el hgc hlt' fun u hu => ?_
    rw [k_holds hm4 (by omega) hu (by have := b2 _ hmem; omega) (w1 _ hmem)]
    simp only [br_bool]
    refine ⟨fun hh => ?_, fun _ => key h4 κ ds K4 (by omega) hds⟩
    obtain ⟨lv, vs, a1, a2, a3, a4, a5⟩ := K4.a
    simp only [qfa_api_Formula_Clauses, Nat.zero_add]
    have cellA : ∀ h', row h' h1.size = some [I n, lv] → Rd P h' (Instr.loadAt T.Sl_Sl_int (.pointer (some ⟨h1.size, 1, none⟩))) lv := fun h' e => Rd_ld sc_Sl_Sl_int (by rw [hcell_row e]; rfl)
    have cellF : ∀ h', row h' h.size = some [I n, .slice ca cs.length cc] → Rd P h' (Instr.loadAt T.Sl_Sl_int (.pointer (some ⟨h.size, 1, none⟩))) (.slice ca cs.length cc) := fun h' e => Rd_ld sc_Sl_Sl_int (by rw [hcell_row e]; rfl)
    obtain ⟨bq, oq, u2, rfl, hcq, hu2⟩ := hgc i hlt'
    refine ⟨fun h' => row h' h1.size = some [I n, lv], a1, qs_of (fun h' e => cellA h' e) ⟨fun h' => row h' h.size = some [I n, .slice (some ⟨bq, oq, none⟩) cs.length cc], K4.f, qs_of (fun h' e => cellF h' e) ?_⟩⟩
    rw [qix_Sl_Sl_int hlt', Nat.mul_one]
    refine ⟨fun h' => hcell h' ⟨bq, oq + i, none⟩ = some u2, hcq, qs_of (v := u2) (fun h' e => Rd_ld sc_Sl_int e) ?_⟩
    refine k_CopyInts hu2 (by have := b2 _ hmem; omega) fun w7 h7 bs7 o7 f7 n7 => ?_
    refine ⟨f7.row K4.f (by simp), f7.row a1 (by simp), ?_⟩
    -- the copy's memory has its kind
    have kd : ∃ κ7 : Nat → Kind, Ext h4 κ κ7 ∧ (∀ b ∈ bs7, κ7 b = .lits) ∧ (∀ b, h7.size ≤ b → κ7 b = .none) := by
      refine ⟨fun b => if h4.size ≤ b ∧ b ∈ bs7 then .lits else κ b, fun b hb => if_neg (by omega), fun b hb => if_pos ⟨n7 b hb, hb⟩, fun b hb => ?_⟩
      show (if _ then _ else _) = _
      rw [if_neg (fun hh => by have := o7.lt b hh.2; omega)]
      exact K4.fresh b (by have := f7.size; omega)
    obtain ⟨κ7, x7, l7, fr7⟩ := kd
    have hsc7 : sc1 w7 = true := by rcases o7 with ⟨rfl, _⟩ | ⟨_, _, _, _, rfl, _⟩ <;> rfl
    have a27 := a2.frame (κ' := κ7) f7 (by simp) x7
    have ltA := row_lt a1
    have ltF := row_lt K4.f
    refine appZ (fun h8 X => row h8 h.size = some [I n, .slice (some ⟨bq, oq, none⟩) cs.length cc] ∧ row h8 h1.size = some [I n, lv] ∧ X) sl_Sl_Sl_int ti_Sl_int a27 hsc7 (by omega) (by rw [a3]; omega) fr7 (fun h8 X f hX => ⟨f.row (f7.row K4.f (by simp)) (by simp), f.row (f7.row a1 (by simp)) (by simp), hX⟩) fun v9 h9 κ9 F9 o9 f9 hF9 x9 fr9 n9 => ?_
    have nF : ∀ b, κ7 b ≠ .lists → b ∉ F9 := fun b hb hb' => hb (hF9 b hb').1
    have kF : κ7 h.size = .watch := by rw [x7 _ ltF]; exact K4.kf
    have kA : κ7 h1.size = .watch := by rw [x7 _ ltA]; exact K4.ka
    have rF9 := f9.row (f7.row K4.f (by simp)) (nF _ (by rw [kF]; nofun))
    have rA9 := f9.row (f7.row a1 (by simp)) (nF _ (by rw [kA]; nofun))
    refine ⟨rF9, ?_⟩
    refine sem_st1 ti_Sl_Sl_int rA9 (by simp) ?_ ?_
    · obtain ⟨bs, o1, _⟩ := o9
      rcases o1 with ⟨rfl, _⟩ | ⟨_, _, _, _, rfl, _⟩ <;> rfl
    simp only [List.set_cons_succ, List.set_cons_zero]
    have f10 : Fr2 h9 (hput h9 h1.size [I n, v9]) [h1.size] := (Fr2.refl _ _).put (.inl (by simp))
    have s9 := f9.size
    have s7 := f7.size
    have kA9 : κ9 h1.size = .watch := by rw [x9 _ (by omega)]; exact kA
    have kF9 : κ9 h.size = .watch := by rw [x9 _ (by omega)]; exact kF
    have noA : ∀ (k : Kind), k ≠ .watch → ∀ b ∈ [h1.size], κ9 b ≠ k := fun k hk b hb e => by simp at hb; subst hb; rw [kA9] at e; exact hk e.symm
    refine key _ κ9 (ds ++ [cs[i]]) ⟨?_, f10.row rF9 (by simpa using K4.ne), fun b hb => ?_, kF9, kA9, K4.ne, fun b hb => by rw [size_hput] at hb; exact fr9 b hb, ⟨v9, vs ++ [w7], hput_same rA9, o9.frame f10 (noA _ nofun) (fun _ _ => rfl), by simp [a3], fun v hv => ?_, fun q q1 q2 => ?_⟩⟩ (by simp; omega) (fun d hd => ?_)
    · have g1 : Fr2 h h7 [] := K4.fr.trans f7 (by simp)
      have g2 : Fr2 h h9 [] := g1.trans f9 fun b hb => by
        right
        have := (hF9 b hb).1
        rcases Nat.lt_or_ge b h.size with hlt | hge
        · have e1 := K4.old b hlt
          have e2 := K4.fr.size
          rw [x7 b (by omega), e1] at this; cases this
        · exact hge
      exact g2.trans f10 fun b hb => by simp at hb; right; omega
    · have e2 := K4.fr.size
      rw [x9 b (by omega), x7 b (by omega)]; exact K4.old b hb
    · rcases List.mem_append.1 hv with h | h
      · exact a4 v h
      · simp at h; subst h; exact hsc7
    · have nl : ∀ b ∈ F9, κ7 b ≠ .lits := fun b hb e => by rw [(hF9 b hb).1] at e; cases e
      by_cases hq : q < vs.length
      · have e1 : (vs ++ [w7])[q] = vs[q] := List.getElem_append_left hq
        have e2 : (ds ++ [cs[i]])[q] = ds[q]'(by omega) := List.getElem_append_left (by omega)
        rw [e1, e2]
        exact (((a5 q hq (by omega)).frame (κ' := κ7) f7 (by simp) x7).frame f9 nl x9).frame f10 (noA _ nofun) fun _ _ => rfl
      · have hq' : q = vs.length := by simp at q1; omega
        subst hq'
        have e1 : (vs ++ [w7])[vs.length] = w7 := by simp
        have e2 : (ds ++ [cs[i]])[vs.length] = cs[i] := by simp [a3]
        rw [e1, e2]
        exact (OwnK.frame (κ := κ7) ⟨bs7, o7, l7⟩ f9 nl x9).frame f10 (noA _ nofun) fun _ _ => rfl
    · rcases List.mem_append.1 hd with h | h
      · exact hds d h
      · simp at h; subst h; exact ⟨hmem, hh⟩
  · obtain ⟨lv, a1, hrows⟩ := K4.rows
    rw [rd_lda (l := [I n, lv]) ag_api_Formula (hcells_row a1 2 0 (by simp))]
    refine k_New hrows (by omega) (fun d hd => by have := b2 d (hds d hd).1; omega) (fun d hd => (hds d hd).2) (fun h5 f5 => ?_) (fun C κ5 S5 h5 em W5 V5 N5 eK => ?_)
    · -- no formula
      simp only [rd_ext, List.getElem?_cons_zero, List.getElem?_cons_succ, optK_some, rd_neq, rd_eql]
      have b0 : ((1 : Int) != 0) = true := rfl
      have b1' : ((1 : Int) == 1) = true := rfl
      simp only [b0, b1', isB_tt, isB_tf, isB_ft, isB_ff, gq_true, gq_false, ex_bool, cond_true, cond_false, br_bool, rd_pnil up_P_watch_Watch, Option.isNone_none]
      exact ⟨fun _ => hk _ (K4.fr.trans f5 (by simp)), nofun⟩
    simp only [rd_ext, List.getElem?_cons_zero, List.getElem?_cons_succ, optK_some, rd_neq, rd_eql]
    have b0 : ((0 : Int) != 0) = false := rfl
    simp only [b0, isB_tt, isB_tf, isB_ft, isB_ff, gq_true, gq_false, ex_bool, cond_true, cond_false, br_bool, rd_pnil up_P_watch_Watch, Option.isNone_some]
    refine ⟨nofun, fun _ => ?_⟩
    clear hk' hgc
    have N05 : Nx none h (fun _ => .none) h5 κ5 := (Nx.new K4.fr).trans N5
    obtain ⟨sa, sc, rfl, hgs⟩ := hs
    refine lp1_of (fun z h' => ∃ (i : Nat) (κ' : Nat → Kind) (S' : WS), z = I i ∧ i ≤ ss.length ∧ WI C κ' none S' h' ∧ VS C S' ∧ Nx none h (fun _ => .none) h' κ' ∧ S'.K ≤ cs.length + i) (fun z _ => ss.length - iv z) ⟨0, κ5, S5, rfl, Nat.zero_le _, W5, V5, N05, by omega⟩ ?_
    rintro z g6 h6 ⟨i, κ6, S6, rfl, hi6, W6, V6, N6, K6⟩ k hk'
    have hm6 := hm.keep N6.fr
    rw [ln_Sl_depotlaw07_Op]
    simp only [rd_lss, br_bool]
    refine ⟨fun hlt => ?_, fun hge => ?_⟩
    rotate_left
    · exact k_Run W6 V6 (by omega) fun h7 κ7 S7 W7 V7 N7 _ _ _ => hk _ (N6.trans N7).fr
    have hlt' : i < ss.length := by simpa using hlt
    have hmem := List.getElem_mem hlt'
    refine jn_intro fun KK hKK => ?_
    have key : ∀ h7 κ7 S7, WI C κ7 none S7 h7 → VS C S7 → Nx none h6 κ6 h7 κ7 → S7.K ≤ cs.length + i + 1 → KK h7 := by
      intro h7 κ7 S7 W7 V7 N7 K7
      rw [hKK]
      refine k_Run W7 V7 (by omega) fun h8 κ8 S8 W8 V8 N8 e8 _ ec8 => ?_
      refine k_Lits W8 V8 fun lv9 h9 bs9 o9 f9 n9 => ?_
      have W9 := W8.keep f9
      have N9 : Nx none h (fun _ => .none) h9 κ8 := N6.trans (N7.trans (N8.trans (Nx.new f9)))
      have hm9 := hm.keep N9.fr
      simp only [rd_not, Bool.not_true, isB_tt, isB_tf, isB_ft, isB_ff, gq_true, gq_false, gd_true, gd_false, ex_bool, cond_true, cond_false]
      rw [k_Clashes W9]
      simp only [ex_bool, cond_true, cond_false, br_bool, ec8]
      refine ⟨nofun, fun _ => ?_⟩
      have hI9 : Ints h9 lv9 (tidy S8.trail) := o9.src
      have htr : ∀ l ∈ tidy S8.trail, tru m l = true ∧ in64 l := fun l hl => by
        obtain ⟨l0, lR, lt⟩ := V8.tr l (mem_tidy.1 hl).1
        have := V8.n20
        unfold inR at lR
        unfold in64
        exact ⟨em ▸ lt, by omega, by omega⟩
      have htl : (tidy S8.trail).length < 4611686018427387904 := by
        have := tidy_len S8.trail; have := V8.tz; have := V8.n20; omega
      generalize tidy S8.trail = tl at *
      obtain ⟨ta, tc, rfl, hgt⟩ := hI9.form
      refine lp1_of (fun z h' => h' = h9 ∧ ∃ q : Nat, z = I q ∧ q ≤ tl.length) (fun z _ => tl.length - iv z) ⟨rfl, 0, rfl, Nat.zero_le _⟩ ?_
      rintro z g10 h10 ⟨rfl, q, rfl, hq⟩ k10 hk10
      simp only [ln_Sl_int, rd_lss, br_bool]
      refine ⟨fun hlt => ?_, fun hge => ?_⟩
      · have hq' : q < tl.length := by simpa using hlt
        obtain ⟨t1, t2, t3⟩ := htr _ (List.getElem_mem hq')
        rw [ints_el hgt hq', k_truth hm9 (by omega) t2 t3, t1]
        simp only [rd_not, Bool.not_true, br_bool, rd_add]
        rw [wrap_succ (by omega)]
        exact ⟨nofun, fun _ => hk10 _ _ ⟨rfl, q + 1, rfl, hq'⟩ (by simp only [iv, Int.toNat_natCast]; omega)⟩
      · simp only [rd_add]
        rw [wrap_succ (by omega)]
        exact hk' _ _ ⟨i + 1, κ8, S8, rfl, hlt', W9, V8, N9, by omega⟩ (by simp only [iv, Int.toNat_natCast]; omega)
    obtain ⟨bq, oq, u, rfl, g1, g2, g3, g4⟩ := hgs i hlt'
    have c1 := N6.fr.cell g1 (by simp)
    have c2 := N6.fr.cell g2 (by simp)
    have c3 := N6.fr.cell g3 (by simp)
    have c4 := g4.keep N6.fr
    obtain ⟨v1, v2⟩ := w2 _ hmem
    have v3 := b5 _ hmem
    have ixs : ∀ {hh : Heap} {kk : Value → Prop}, rd P hh (Instr.indexAt 26 (.slice (some ⟨bq, oq, none⟩) ss.length sc) (I i)) kk = kk (.pointer (some ⟨bq, oq + i * 4, none⟩)) := fun {hh kk} => ix_Sl_depotlaw07_Op hlt'
    generalize ss[i] = s at *
    simp only [ixs, fa_depotlaw07_Op_Kind, fa_depotlaw07_Op_Lit, fa_depotlaw07_Op_Lits, Nat.add_zero, rd_ld c1 sc_int, rd_ld c2 sc_int, rd_ld c3 sc_Sl_int, rd_eql, br_bool]
    have stay : KK h6 := key h6 κ6 S6 W6 V6 (Nx.refl _ _ _) (by omega)
    refine ⟨fun _ => ?_, fun _ => ⟨fun _ => ?_, fun _ => ⟨fun _ => ?_, fun _ => stay⟩⟩⟩
    · rw [k_holds hm6 (by omega) c4 (by omega) v2]
      simp only [br_bool, rd_ld c3 sc_Sl_int]
      refine ⟨fun hh => ?_, fun _ => stay⟩
      refine k_CopyInts c4 (by omega) fun w7 h7 bs7 o7 f7 n7 => ?_
      refine k_Add (W6.keep f7) V6 (by omega) o7.src (by omega) (by rw [em]; exact hh) fun r h8 κ8 S8 W8 V8 N8 K8 => key h8 κ8 S8 W8 V8 ((Nx.new f7).trans N8) (by omega)
    · rw [k_truth hm6 (by omega) v1.1 v1.2]
      simp only [br_bool, rd_ld c2 sc_int]
      refine ⟨fun hh => ?_, fun _ => stay⟩
      exact k_Assume W6 V6 (by rw [em]; exact hh) fun r h8 κ8 S8 W8 V8 N8 K8 => key h8 κ8 S8 W8 V8 N8 (by omega)
    · exact k_Undo W6 V6 fun r h8 κ8 S8 W8 V8 N8 K8 => key h8 κ8 S8 W8 V8 N8 (by omega)
end Go.Proofs.Ytihbhklcnbdijaa
