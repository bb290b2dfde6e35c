/- Games on networks: a step of the desk's strategy, walked. -/
import Derived.Test.YtcodoembnjemkaaGreatSgM
set_option maxRecDepth 100000
set_option maxHeartbeats 400000000
set_option linter.unusedSectionVars false
set_option linter.unusedVariables false
set_option linter.unusedSimpArgs false
namespace Go.Proofs
open Go.RowKit Go.Kin Go.Kin.St Go.Kin.Ct Go.Kin.Sg
namespace R24
noncomputable def nxI (G : Gm) (p : Pos) (i : Nat) : List Pos := ((allCh (may G p.1 p.2) (Sg.due G p.1 p.2)).take i).map fun S => (p.1 + 1, put (put p.2 S (p.1 + 1)) (gD G p.1 (put p.2 S (p.1 + 1))) (p.1 + 1))
noncomputable def adI (G : Gm) (p : Pos) (i : Nat) : List Dec := ((allCh (may G p.1 p.2) (Sg.due G p.1 p.2)).take i).flatMap fun S => dec1 p.1 (put p.2 S (p.1 + 1)) (gD G p.1 (put p.2 S (p.1 + 1)))
theorem nxI_all {G : Gm} {p : Pos} : nxI G p (allCh (may G p.1 p.2) (Sg.due G p.1 p.2)).length = nxD G p := by unfold nxI nxD; rw [List.take_length]
theorem adI_all {G : Gm} {p : Pos} : adI G p (allCh (may G p.1 p.2) (Sg.due G p.1 p.2)).length = adD G p := by unfold adI adD; rw [List.take_length]
theorem nxI_snoc {G : Gm} {p : Pos} {i : Nat} {S : List Nat} (h : (allCh (may G p.1 p.2) (Sg.due G p.1 p.2))[i]? = some S) : nxI G p (i + 1) = nxI G p i ++ [(p.1 + 1, put (put p.2 S (p.1 + 1)) (gD G p.1 (put p.2 S (p.1 + 1))) (p.1 + 1))] := by
 unfold nxI; rw [List.take_add_one, h, List.map_append]; rfl
theorem adI_snoc {G : Gm} {p : Pos} {i : Nat} {S : List Nat} (h : (allCh (may G p.1 p.2) (Sg.due G p.1 p.2))[i]? = some S) : adI G p (i + 1) = adI G p i ++ dec1 p.1 (put p.2 S (p.1 + 1)) (gD G p.1 (put p.2 S (p.1 + 1))) := by
 unfold adI; rw [List.take_add_one, h, List.flatMap_append]; simp
theorem nxI_len {G : Gm} {p : Pos} {i : Nat} : (nxI G p i).length <= i := by unfold nxI; rw [List.length_map, List.length_take]; omega
theorem allCh_len {ps must : List Nat} (h : ps.length <= 6) : (allCh ps must).length <= 64 := by
 unfold allCh chN
 refine Nat.le_trans (List.length_filter_le ..) ?_
 rw [List.length_map, List.length_range]
 exact Nat.le_trans (Nat.pow_le_pow_right (by omega) h) (by decide)
theorem step44_calls (b : GB) (a bgs bs bg k : Nat) (l : List Int) (hb : GOK b) (hk : k <= b.T) (hl : PosN b l) (hne : b.n ≠ 0) (hv : Vt b.g k l) : StepC b a 37 bgs bs bg (adD b.g) (nxD b.g) (k, l) := by
 intro es s w hes hs hsl hnd hm hg hbg hbgs
 have hT := hb.T
 have hn := hb.n
 have hsat := frQ_start hnd hm
 have hwk : ∀ d, b.T + 1 - (k + 1) = d -> WinsC b a (k + 1) := fun d hd => wins_calls b a hb d (k + 1) hd (by omega)
 have hW1 := hwk _ rfl
 obtain ⟨D, hD⟩ : ∃ D, D = allBut w (((b.m, es.o) :: s.m bs).map (·.1)) := ⟨_, rfl⟩
 rw [<- hD] at hg hbg hbgs hsat
 have hDm : ¬ D b.m := by rw [hD]; exact fun h => h.2 (by simp)
 have hml : (may b.g k l).length <= 6 := Nat.le_trans may_len hn
 have hdl : (Sg.due b.g k l).length <= 6 := Nat.le_trans due_len hn
 refine fun_enter Tryz.func37 rfl Tryz.ntmps37 rfl rfl hsat ?_
 repeat ((fail_if_success refine c_probe (id := 1) ?_); (fail_if_success refine c_probe1 (id := 1) ?_); first|refine l_nil ?_|refine c_region ?_|refine c_seq ?_|refine x_then ?_|refine r_box rfl rfl rfl rfl (fun _ => ?_)|refine r_alloc rfl rfl rfl (by first|exact aggL|fail) (fun _ => ?_)|fail)
 repeat refine c_seq ?_
 rename_i b3 b4 b5
 refine c_new 0 7 [(1, .calO 0 (fun b => .agg ⟨plO b⟩) (bxG a)), (4, .calL [1, 2, 3, 4, 5, 6] (mvV (may b.g k l) (Sg.due b.g k l)) (mvO k (kn l) 0 (may b.g k l) (Sg.due b.g k l)))] [(1, [0]), (4, [1, 2, 3, 4, 5, 6])] [(4, 0)] rfl (by decide +kernel) rfl ?_
 refine e_val rfl rfl rfl rfl (by first|exact v_load_ext0 rfl (by assumption) rfl (by rfl) ) ?_
 refine e_callO rfl rfl rfl rfl rfl rfl (fun W hW => others_calls a W) (fun bq => ?_)
 refine e_val rfl rfl rfl rfl (by first|exact pureEval_ok rfl ) ?_
 refine e_val rfl rfl rfl rfl (v_loadAll rfl (by repeat constructor) rfl rfl plC_len) ?_
 refine e_callvL rfl rfl rfl rfl rfl rfl rfl (by decide) (fun _ => mvO_len) rfl (fun W hW => ?_) (fun π => ?_)
 ·have hcell := hW.cellAt (b := bq) (l := [.pointer (some ⟨a, 0, none⟩)]) (T := 49) (fr := (0, 0)) (by repeat constructor) 0
  refine (movO_calls b a bq k (kn l) W hn (by omega) (fun q => by have := hl.kn q; omega) hb.r hb.c (hg.sat hW) hcell).mono fun e W' h => ?_
  obtain ⟨π, h1, h2⟩ := movQ_L ⟨_⟩ h
  exact ⟨π, h1, fun m hm => h2 m hm⟩
 have hcok := cbP_ok (π := π) hml hdl
 obtain ⟨c, hc⟩ : ∃ c, cbP (may b.g k l) (Sg.due b.g k l) π = c := ⟨_, rfl⟩
 rw [hc] at hcok
 have ho : mvO k (kn l) 0 (may b.g k l) (Sg.due b.g k l) ⟨[.agg ⟨plC k (kn l)⟩, .pointer (some ⟨bq, 0, none⟩)]⟩ π = c.ms k (kn l) 0 (may b.g k l) (Sg.due b.g k l) := by unfold mvO; rw [hc]
 have hov : mvV (may b.g k l) (Sg.due b.g k l) ⟨[.agg ⟨plC k (kn l)⟩, .pointer (some ⟨bq, 0, none⟩)]⟩ π = c.v := by unfold mvV; rw [hc]
 have hol : (c.ms k (kn l) 0 (may b.g k l) (Sg.due b.g k l)).length <= 6 := by rw [<- ho]; exact mvO_len
 refine e_nilP (mem' := c.ms k (kn l) 0 (may b.g k l) (Sg.due b.g k l) ++ ((bq, bxG a) :: (b5, .cells ⟨[.slice none 0 0]⟩ 70 (0, 0)) :: (b4, .cells ⟨[.func (.func 67) ⟨[]⟩ ⟨[.pointer (some ⟨bs, 0, none⟩), .pointer (some ⟨bg, 0, none⟩)]⟩]⟩ 69 (0, 0)) :: (b3, .cells ⟨plC k (kn l)⟩ 54 (0, 0)) :: (b.m, es.o) :: s.m bs)) ?_ ?_
 ·refine ((perm_setL (ps := [1, 2, 3, 4, 5, 6]) (m := [some (bq, bxG a), none, none, none, none, none, none]) ?_ (by decide) ?_).symm.append_right _).trans ?_
  ·intro p hp
   simp only [List.mem_cons, List.not_mem_nil, or_false] at hp
   rcases hp with rfl | rfl | rfl | rfl | rfl | rfl <;> rfl
  ·exact mvO_len
  ·exact List.Perm.of_eq (by
    show (mvO k (kn l) 0 (may b.g k l) (Sg.due b.g k l) ⟨[.agg ⟨plC k (kn l)⟩, .pointer (some ⟨bq, 0, none⟩)]⟩ π ++ [(bq, bxG a)]) ++ _ = _
    rw [ho, List.append_assoc]
    rfl)
 repeat (first|refine x_then ?_|refine c_block ?_|fail)
 have hl6 := allCh_len (ps := may b.g k l) (must := Sg.due b.g k l) hml
 refine c_rangeH (chH k (kn l) 0) (allCh (may b.g k l) (Sg.due b.g k l)) (fun x => x ∈ (c.ms k (kn l) 0 (may b.g k l) (Sg.due b.g k l)).map (·.1)) (c.ms k (kn l) 0 (may b.g k l) (Sg.due b.g k l)) (ι := RS) (fun o => o.i)
  (fun o => (∀ x ∈ o.es.es, EntV b x) /\ o.s.rows = s.rows ++ o.rs /\ o.s.OK /\ o.rs.map DR.dec = adI b.g (k, l) o.i /\ (∀ r ∈ o.rs, r.OK) /\ gOK plE 7 (nxI b.g (k, l) o.i) o.q.c o.q.r /\ o.rs.length <= o.i /\ o.i <= (allCh (may b.g k l) (Sg.due b.g k l)).length)
  (fun o => (b5, .cells ⟨[gSl (nxI b.g (k, l) o.i) o.q.b o.q.c]⟩ 70 (0, 0)) :: (b4, .cells ⟨[.func (.func 67) ⟨[]⟩ ⟨[.pointer (some ⟨bs, 0, none⟩), .pointer (some ⟨bg, 0, none⟩)]⟩]⟩ 69 (0, 0)) :: (b.m, o.es.o) :: (rowsM o.rs ++ (gM plE 54 (nxI b.g (k, l) o.i) o.q.b o.q.r ++ o.s.m bs)))
  (fun _ _ => False)
  ⟨0, es, s, [], ⟨0, 0, []⟩⟩ (show evOp _ (.tmp 15) = some c.v from congrArg some hov) (fun W W1 hW hS => cb_it c hml hdl (fun x hx => by have := may_lt' x hx; omega) (by omega) (by omega) hW (fun p hp => List.mem_append_left _ hp) hS) (fun b hb => .inr hb) (fun x _ vs ms h => by obtain ⟨b, cap, rest, _, rfl, _⟩ := h; rfl) (by decide) rfl
  ⟨hes, (List.append_nil _).symm, hs, rfl, (fun r hr => by cases hr), fun h => absurd rfl h, Nat.le_refl _, Nat.zero_le _⟩ (mSub_app (MSub.drop (MSub.keep rfl (MSub.keep rfl (MSub.drop (MSub.refl _))))) _)
  (env' := [(2, .pointer (some ⟨bgs, 0, none⟩)), (4, .pointer (some ⟨b4, 0, none⟩)), (5, .pointer (some ⟨b5, 0, none⟩))]) (by repeat (first|exact .nil|refine .cons rfl (by first|rfl|(congr 1; done)|exact congrArg _ (by omega)|(simp; done)) ?_)) ?_ ?_ ?_
 ·rintro ⟨i, es1, s1, rs, qn⟩ ⟨i1, i2, i3, i4, i5, i6, i7, i8⟩ hki vs ms hH n lp W hW hDl hol2
  simp only at i1 i2 i3 i4 i5 i6 i7 i8 hki hH hW hol2 ⊢
  obtain ⟨sb, scap, srest, hsg, rfl, rfl⟩ := hH
  obtain ⟨S, hS⟩ : ∃ S, (allCh (may b.g k l) (Sg.due b.g k l))[i] = S := ⟨_, rfl⟩
  have hS2 : (allCh (may b.g k l) (Sg.due b.g k l))[i]? = some S := by rw [List.getElem?_eq_getElem hki, hS]
  rw [hS] at hsg hW hol2 ⊢
  have hSm := List.mem_of_getElem? hS2
  have hSl := ch_lt hSm may_lt'
  obtain ⟨q, hq⟩ : ∃ q, put l S ((k : Int) + 1) = q := ⟨_, rfl⟩
  have hpq : PosN b q := by rw [<- hq]; exact hl.put (by omega)
  have hpf : putF (kn l) S ((k : Int) + 1) = kn q := by rw [<- hq]; exact putF_kn fun x hx => by have := hSl x hx; have := hl.1; omega
  obtain ⟨gd1, gd2, gd3⟩ := gD_good hk (ch_mem.2 hSm) hv
  have hns := nxI_snoc (G := b.g) (p := (k, l)) hS2
  have has := adI_snoc (G := b.g) (p := (k, l)) hS2
  simp only at hns has
  rw [hq] at gd1 gd2 hns has
  obtain ⟨dd, hdd⟩ : ∃ dd, gD b.g k q = dd := ⟨_, rfl⟩
  rw [hdd] at gd1 gd2 hns has
  rw [hpf, Int.add_zero]
  have hg1 : b.In a W (outside (gM nE 3 S sb srest ++ (b5, Obj.cells ⟨[gSl (nxI b.g (k, l) i) qn.b qn.c]⟩ 70 (0, 0)) :: (b4, .cells ⟨[.func (.func 67) ⟨[]⟩ ⟨[.pointer (some ⟨bs, 0, none⟩), .pointer (some ⟨bg, 0, none⟩)]⟩]⟩ 69 (0, 0)) :: (b.m, es1.o) :: (rowsM rs ++ (gM plE 54 (nxI b.g (k, l) i) qn.b qn.r ++ s1.m bs))) W) := hg.move hW.same fun k hk => hW.within hk
  refine c_sub _ (List.sublist_append_right _ _) ?_
  repeat (first|refine r_alloc rfl rfl rfl (plC_zero rfl) (fun _ => ?_)|refine r_store (vs := plC _ _) rfl rfl rfl rfl rfl plC_beq plC_one (by repeat constructor) (putAll (plC_len.trans plC_len.symm)) ?_|refine l_nil ?_|refine c_region ?_|fail)
  refine x_body hW hDl hol2 (fun n2 W2 r2 hW2 hr2 ho2 => ?_)
  rename_i b7
  have hg2 := hg.move hW2.same fun k hk => hW2.within hk
  have hbg2 := hbg.into hW2
  have hbgs2 := hbgs.into hW2
  repeat ((fail_if_success refine c_probe (id := 3) ?_); (fail_if_success refine c_probe1 (id := 3) ?_); first|refine c_block ?_|fail)
  refine c_hasJ (b := b.m) (R := EntV b) (ents := es1.es) (clock := es1.cl) (List.perm_middle (l₁ := [_, _, _])) i1 (fun hD2 => ?_)
  repeat refine c_seq ?_
  refine c_new 0 3 [(1, .calO 0 (fun b => .agg ⟨plD a b⟩) (bxG a)), (3, .calL [1] (fV (some dd) k (kn q) 1) (fM (some dd))), (8, .new 2), (10, .sto 2 0 7)] [(1, [0]), (3, [1]), (8, [2]), (10, [2])] [(3, 0)] rfl (by decide +kernel) rfl ?_
  refine e_val rfl rfl rfl rfl (by first|exact v_load_ext0 rfl (by assumption) rfl (by rfl) ) ?_
  refine e_callO rfl rfl rfl rfl rfl rfl (fun W hW => desk_calls a W) (fun bq2 => ?_)
  refine e_val rfl rfl rfl rfl (v_loadAll rfl (by repeat constructor) rfl rfl plC_len) ?_
  refine e_callL rfl rfl rfl rfl rfl (by decide) (fun _ => fM_len) rfl (fun W3 hW3 => ?_) (fun π2 => ?_)
  ·obtain ⟨es2, h1, h2⟩ := word_m hW3
   have hcell := hW3.cellAt (b := bq2) (l := [.pointer (some ⟨a, 0, none⟩)]) (T := 49) (fr := (0, 0)) (by repeat constructor) 0
   refine (firstD_calls b a bq2 k q W3 es2 hb hk hpq (hg2.sat hW3) hcell h1 h2 hW1).mono fun e W' h => ?_
   rw [gd1] at h
   exact firstQ_L _ hD2 h
  cases dd with
  | nil =>
   repeat ((fail_if_success refine c_probe (id := 4) ?_); (fail_if_success refine c_probe1 (id := 4) ?_); first|refine e_new rfl rfl rfl rfl (n_alloc rfl (plC_zero rfl)) (fun _ => ?_)|refine e_store (vs := plC _ _) rfl rfl rfl rfl rfl plC_beq plC_one rfl rfl rfl rfl (by rw [plC_len]; decide) (splice_all (plC_len.trans plC_len.symm)) ?_|refine x_then ?_|refine e_val rfl rfl rfl rfl (by first|exact pureEval_ok rfl|fail) ?_|refine e_nil rfl ?_|fail)
   refine c_unJ hD2 (fun ents2 clock2 hes2 => ?_)
   have hp2 : plC ((k : Int) + 1) (putF (kn q) [] ((k : Int) + 1)) = plE (k + 1, put q [] ((k : Int) + 1)) := by
    unfold plE; rw [putF_kn (fun x hx => by cases hx)]; simp
   rw [hp2]
   refine c_perm perm3 ?_
   simp only [List.cons_append, List.nil_append]
   rename_i b9
   repeat (first|refine r_callv rfl rfl rfl rfl rfl (fun W hW => add0_calls bs bg k (kn q) W) ?_|refine l_val rfl rfl (v_loadAll rfl (by repeat constructor) rfl rfl plC_len) ?_|refine l_val rfl rfl (by first|exact pureEval_ok rfl|exact v_load rfl (by repeat constructor) rfl (by rfl)|fail) ?_|refine l_nil ?_|refine c_region ?_|refine c_seq ?_|refine x_then ?_|refine r_buildSlice rfl rfl rfl rfl rfl rfl (by rfl) (fun _ => ?_)|fail)
   rename_i bn
   have hnl := nxI_len (G := b.g) (p := (k, l)) (i := i)
   refine r_appendZ (f := plE) (e := 54) (sz := 7) (xs := nxI b.g (k, l) i) (ys := [(k + 1, put q [] ((k : Int) + 1))]) (m := 1) rfl rfl rfl rfl rfl rfl rfl (.inr ⟨_, 0, rfl, news_own (by repeat constructor)⟩) (permG (D := [_, _, _, _, _, _, _])) i6 plE_rows rfl rfl (by omega) (by unfold maxLen; omega) (fun b8 c8 r8 hg8 => ?_)
   rw [<- hns] at hg8 ⊢
   refine l_perm (permG (D := [_, _, _, _, _, _, _])).symm ?_
   simp only [List.cons_append, List.nil_append]
   repeat (first|refine r_store (vs := [_]) rfl rfl rfl gSl_cells rfl rfl gSl_one (by repeat constructor) (by rfl) ?_|refine l_nil ?_|refine x_block ?_|fail)
   exact x_next ⟨i + 1, ⟨ents2, clock2⟩, s1, rs, ⟨b8, c8, r8⟩⟩ rfl ⟨hes2, i2, i3, by rw [i4, has]; simp [dec1], i5, hg8, by simp only; omega, hki⟩ (by repeat (first|exact .nil|refine .keep (by first|rfl|assumption) ?_|refine .drop ?_|exact MSub.refl _))
  | cons x dd =>
   repeat ((fail_if_success refine c_probe (id := 4) ?_); (fail_if_success refine c_probe1 (id := 4) ?_); first|refine e_new rfl rfl rfl rfl (n_alloc rfl (plC_zero rfl)) (fun _ => ?_)|refine e_store (vs := plC _ _) rfl rfl rfl rfl rfl plC_beq plC_one rfl rfl rfl rfl (by rw [plC_len]; decide) (splice_all (plC_len.trans plC_len.symm)) ?_|refine x_then ?_|refine e_val rfl rfl rfl rfl (by first|exact pureEval_ok rfl|fail) ?_|refine e_nil rfl ?_|fail)
   refine c_unJ hD2 (fun ents2 clock2 hes2 => ?_)
   have hp2 : plC ((k : Int) + 1) (putF (kn q) (x :: dd) ((k : Int) + 1)) = plE (k + 1, put q (x :: dd) ((k : Int) + 1)) := by
    unfold plE; rw [putF_kn (fun y hy => by have := free_lt y (gd2.subset hy); have := hpq.1; omega)]; simp
   rw [hp2]
   refine c_perm perm4 ?_
   simp only [List.cons_append, List.nil_append]
   rename_i b9
   repeat (first|refine l_val rfl rfl (v_loadAll rfl (by repeat constructor) rfl rfl plC_len) ?_|refine l_val rfl rfl (by first|exact pureEval_ok rfl|exact v_load rfl (by repeat constructor) rfl (by rfl)|fail) ?_|refine c_region ?_|refine c_seq ?_|fail)
   have hdl6 : (x :: dd).length <= 6 := Nat.le_trans gd2.length_le (Nat.le_trans free_len hn)
   have hq0 : q ≠ [] := fun e => hne (by rw [<- hpq.1, e]; rfl)
   have hsl2 : s1.rows.length <= 100000000 := by rw [i2, List.length_append]; omega
   refine r_callvF (pre := s1.m bs) rfl rfl rfl rfl rfl (permT (D := [_, _, _, _, _, _, _])) (fun W hW h1 h2 => add_calls b a bg bs k q s1 x dd π2.b (capF 1 (x :: dd).length π2.rest) (restF 1 (x :: dd).length π2.rest) W hn hpq.1 hq0 (hg2.move hW.same (hW.allButP (permT (D := [_, _, _, _, _, _, _])))) (hbg2.move hW.same (hW.allButP (permT (D := [_, _, _, _, _, _, _])))) i3 hsl2 h1 h2) ?_
   rintro ⟨ai, ha1, ha2⟩
   simp only
   refine l_perm (permA (D := [_, _, _, _, _, _])) ?_
   rw [<- rowsM_snoc (r := ⟨k, q, x :: dd, ai.bk, ai.ck, ai.rk, π2.b, capF 1 (x :: dd).length π2.rest, restF 1 (x :: dd).length π2.rest⟩)]
   simp only [List.cons_append, List.nil_append]
   repeat (first|refine l_val rfl rfl (v_loadAll rfl (by repeat constructor) rfl rfl plE_len) ?_|refine l_val rfl rfl (by first|exact v_load rfl (by repeat constructor) rfl (by rfl)|fail) ?_|refine l_nil ?_|refine c_region ?_|refine x_then ?_|refine r_buildSlice rfl rfl rfl rfl rfl rfl (by rfl) (fun _ => ?_)|fail)
   rename_i bn
   have hnl := nxI_len (G := b.g) (p := (k, l)) (i := i)
   refine r_appendZ (f := plE) (e := 54) (sz := 7) (xs := nxI b.g (k, l) i) (ys := [(k + 1, put q (x :: dd) ((k : Int) + 1))]) (m := 1) rfl rfl rfl rfl rfl rfl rfl (.inr ⟨_, 0, rfl, news_own (by repeat constructor)⟩) (permG (D := [_, _, _, _, _, _, _])) i6 plE_rows rfl rfl (by omega) (by unfold maxLen; omega) (fun b8 c8 r8 hg8 => ?_)
   rw [<- hns] at hg8 ⊢
   refine l_perm (permG (D := [_, _, _, _, _, _, _])).symm ?_
   simp only [List.cons_append, List.nil_append]
   repeat (first|refine r_store (vs := [_]) rfl rfl rfl gSl_cells rfl rfl gSl_one (by repeat constructor) (by rfl) ?_|refine l_nil ?_|refine x_block ?_|fail)
   exact x_next ⟨i + 1, ⟨ents2, clock2⟩, ⟨s1.rows ++ [DR.mk k q (x :: dd) ai.bk ai.ck ai.rk π2.b (capF 1 (x :: dd).length π2.rest) (restF 1 (x :: dd).length π2.rest)], ai.b, ai.c, ai.r⟩, rs ++ [DR.mk k q (x :: dd) ai.bk ai.ck ai.rk π2.b (capF 1 (x :: dd).length π2.rest) (restF 1 (x :: dd).length π2.rest)], ⟨b8, c8, r8⟩⟩ rfl
    ⟨hes2, by simp only; rw [i2, List.append_assoc], (show gOK drE 3 _ _ _ from ha2), by simp only; rw [List.map_append, i4, has]; rfl, fun r hr => by
     rcases List.mem_append.1 hr with hr | hr
     ·exact i5 r hr
     ·rw [List.mem_singleton.1 hr]
      exact ⟨ha1, gF_ok hdl6 (by simp), by simp⟩, hg8, by simp only [List.length_append, List.length_cons, List.length_nil]; omega, hki⟩ (by repeat (first|exact .nil|refine .keep (by first|rfl|assumption) ?_|refine .drop ?_|exact MSub.refl _))
 ·rintro B ⟨i, es1, s1, rs, qn⟩ hki ⟨i1, i2, i3, i4, i5, i6, i7, i8⟩
  simp only at hki i1 i2 i3 i4 i5 i6 ⊢
  rw [hki] at i4 i6 ⊢
  rw [show nxI b.g (k, l) (allCh (may b.g k l) (Sg.due b.g k l)).length = nxD b.g (k, l) from nxI_all] at i6 ⊢
  rw [show adI b.g (k, l) (allCh (may b.g k l) (Sg.due b.g k l)).length = adD b.g (k, l) from adI_all] at i4
  repeat ((fail_if_success refine c_probe (id := 6) ?_); (fail_if_success refine c_probe1 (id := 6) ?_); first|refine x_then ?_|refine x_block ?_|fail)
  refine c_perm (List.perm_append_comm.cons _) ?_
  simp only [List.cons_append, List.nil_append]
  repeat (first|refine r_store (vs := [_]) rfl rfl rfl gSl_cells rfl rfl gSl_one (by repeat constructor) (by rfl) ?_|refine l_val rfl rfl (by first|exact v_load rfl (by repeat constructor) rfl (by rfl)|fail) ?_|refine l_nil ?_|refine c_region ?_|refine c_seq ?_|refine x_then ?_|refine c_ret ?_|fail)
  refine x_rets (Ds := [B]) rfl rfl (Split.mark (split_self _)) rfl (by repeat (first|exact .nil|(apply Res.tmp; rfl)|(apply Res.cell; rfl; exact (by repeat constructor); rfl; rfl))) rfl (fun W hW => ?_)
  refine ⟨⟨⟨es1, s1, rs, qn⟩, i1, i2, i3, i4, i5, i6⟩, rfl, ?_⟩
  rw [<- hD]
  have h1 : SatW w D noJ (((b.m, es1.o) :: (rowsM rs ++ (gM plE 54 (nxD b.g (k, l)) qn.b qn.r ++ s1.m bs))) ++ c.ms k (kn l) 0 (may b.g k l) (Sg.due b.g k l)) W := hW.mono ((List.sublist_cons_self _ _).trans (List.sublist_cons_self _ _))
  exact (h1.mono (List.sublist_append_left _ _)).perm (perm_by [[(b.m, es1.o)], rowsM rs, gM plE 54 (nxD b.g (k, l)) qn.b qn.r, s1.m bs] [0, 1, 2, 3] [0, 3, 1, 2] rfl (by simp) (by simp [SI.post]))
 ·intro B cd o h
  exact h.elim
end R24
end Go.Proofs
