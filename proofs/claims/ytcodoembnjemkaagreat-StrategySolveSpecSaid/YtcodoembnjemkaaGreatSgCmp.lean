/- Games on networks: a step of the others' strategy, walked. -/
import Derived.Test.YtcodoembnjemkaaGreatSgN
import Derived.Test.YtcodoembnjemkaaGreatSgL
import Derived.Shelf.SlSortCmp.WholeK
import Derived.WalkKit
import Derived.Lib.Hide
set_option maxRecDepth 100000
set_option maxHeartbeats 400000000
set_option linter.unusedSectionVars false
set_option linter.unusedVariables false
set_option linter.unusedSimpArgs false
namespace Go.Proofs
open Go.RowKit Go.Kin Go.Kin.St Go.Kin.Ct Go.Kin.Sg
namespace R24
def nxJ (G : Gm) (k : Nat) (q : List Int) (i : Nat) : List Pos := ((allCh (free G q) []).take i).map fun D => (k + 1, put q D (k + 1))
theorem nxJ_snoc {G : Gm} {k : Nat} {q : List Int} {i : Nat} {S : List Nat} (h : (allCh (free G q) [])[i]? = some S) : nxJ G k q (i + 1) = nxJ G k q i ++ [(k + 1, put q S (k + 1))] := by
 unfold nxJ; rw [List.take_add_one, h, List.map_append]; rfl
theorem nxJ_len {G : Gm} {k : Nat} {q : List Int} {i : Nat} : (nxJ G k q i).length <= i := by unfold nxJ; rw [List.length_map, List.length_take]; omega
theorem permC {β : Type} {x1 x2 x3 x4 x5 y d : β} {T : List β} : ((T ++ [y]) ++ [x1, x2, x3, x4, x5, d]).Perm (x1 :: x2 :: x3 :: x4 :: x5 :: ([y, d] ++ T)) := perm_by [T, [y], [x1, x2, x3, x4, x5], [d]] [0, 1, 2, 3] [2, 1, 3, 0] rfl (by simp) (by simp)
structure RJ where
 i : Nat
 q : QN
theorem permB {β : Type} {X E R T : List β} {m b5 : β} {J1 J2 : List β} : (X ++ (J1 ++ (b5 :: (J2 ++ (m :: (E ++ (R ++ T))))))).Perm ((X ++ (m :: (R ++ T))) ++ (b5 :: (J1 ++ (J2 ++ E)))) := perm_by [X, J1, [b5], J2, [m], E, R, T] [0, 1, 2, 3, 4, 5, 6, 7] [0, 4, 6, 7, 2, 1, 3, 5] rfl (by simp) (by simp)
theorem step48_calls (b : GB) (a bgs bs bg k : Nat) (l : List Int) (hb : GOK b) (hk : k <= b.T) (hl : PosN b l) (hne : b.n ≠ 0) (hv : ¬ Vt b.g k l) : StepC b a 39 bgs bs bg (adO b.g) (nxO b.g) (k, l) := by
 intro es s w hes hs hsl hnd hm hg hbg hbgs
 have hT := hb.T
 have hn := hb.n
 have hsat := frQ_start hnd hm
 have hwk : ∀ d, b.T + 1 - (k + 1) = d -> WinsC b a (k + 1) := fun d hd => wins_calls b a hb d (k + 1) hd (by omega)
 have hW1 := hwk _ rfl
 obtain ⟨D, hD⟩ : ∃ D, D = allBut w (((b.m, es.o) :: s.m bs).map (·.1)) := ⟨_, rfl⟩
 rw [<- hD] at hg hbg hbgs hsat
 have hDm : ¬ D b.m := by rw [hD]; exact fun h => h.2 (by simp)
 have hml : (may b.g k l).length <= 6 := Nat.le_trans may_len hn
 obtain ⟨go1, go2, go3⟩ := gO_good hk hv
 obtain ⟨S, hS⟩ : ∃ S, gO b.g k l = S := ⟨_, rfl⟩
 rw [hS] at go1 go2
 have hSl : ∀ x ∈ S, x < b.n := ch_lt (ch_mem.1 go2) may_lt'
 have hS6 : S.length <= 6 := Nat.le_trans go2.1.length_le hml
 obtain ⟨q, hq⟩ : ∃ q, put l S ((k : Int) + 1) = q := ⟨_, rfl⟩
 have hpq : PosN b q := by rw [<- hq]; exact hl.put (by omega)
 have hpf : putF (kn l) S ((k : Int) + 1) = kn q := by rw [<- hq]; exact putF_kn fun x hx => by have := hSl x hx; have := hl.1; omega
 have hnx : nxO b.g (k, l) = nxJ b.g k q (allCh (free b.g q) []).length := by
  unfold nxO nxJ; rw [List.take_length]; simp only; rw [hS, hq]
 have had : adO b.g (k, l) = dec1 k l S := by unfold adO; simp only; rw [hS]
 have hfl6 : (free b.g q).length <= 6 := Nat.le_trans free_len hn
 have hl6 := allCh_len (ps := free b.g q) (must := []) hfl6
 have hl0 : l ≠ [] := fun e => hne (by rw [<- hl.1, e]; rfl)
 rw [hnx, had]
 refine fEn Tryz.func39 rfl Tryz.ntmps39 rfl rfl hsat ?_
 repeat ((fail_if_success refine c_probe (id := 1) ?_); (fail_if_success refine c_probe1 (id := 1) ?_); first|refine lNi ?_|refine cRg ?_|refine cSq ?_|refine xTh ?_|refine r_box rfl rfl rfl rfl (fun _ => ?_)|refine r_alloc rfl rfl rfl (by first|exact aggL|fail) (fun _ => ?_)|fail)
 rename_i b3 b5
 refine c_hasJ (b := b.m) (R := EntV b) (ents := es.es) (clock := es.cl) (List.perm_middle (l₁ := [_, _])) hes (fun hD2 => ?_)
 repeat refine cSq ?_
 refine c_new 0 3 [(1, .calO 0 (fun b => .agg ⟨plO b⟩) (bxG a)), (3, .calL [1] (fV (some S) k (kn l) 0) (fM (some S))), (8, .new 2), (10, .sto 2 0 7)] [(1, [0]), (3, [1]), (8, [2]), (10, [2])] [(3, 0)] rfl (by decide +kernel) rfl ?_
 refine e_val rfl rfl rfl rfl (by first|exact vL0 rfl (by assumption) rfl (by rfl) ) ?_
 refine e_callO rfl rfl rfl rfl rfl rfl (fun W hW => others_calls a W) (fun bq2 => ?_)
 refine e_val rfl rfl rfl rfl (v_loadAll rfl (by repeat constructor) rfl rfl plC_len) ?_
 refine e_callL rfl rfl rfl rfl rfl (by decide) (fun _ => fM_len) rfl (fun W3 hW3 => ?_) (fun π2 => ?_)
 ·obtain ⟨es2, h1, h2⟩ := word_m hW3
  have hcell := hW3.cellAt (b := bq2) (l := [.pointer (some ⟨a, 0, none⟩)]) (T := 49) (fr := (0, 0)) (by repeat constructor) 0
  refine (firstO_calls b a bq2 k l W3 es2 hb hk hl (hg.sat hW3) hcell h1 h2 fun q W es1 h1 h2 h3 h4 h5 => good81_calls b a bq2 k hb hk hW1 q W es1 h1 h2 h3 h4 h5).mono fun e W' h => ?_
  rw [go1] at h
  exact firstQ_L _ hD2 h
 cases S with
 | nil =>
  repeat ((fail_if_success refine c_probe (id := 2) ?_); (fail_if_success refine c_probe1 (id := 2) ?_); first|refine e_new rfl rfl rfl rfl (n_alloc rfl (plC_zero rfl)) (fun _ => ?_)|refine e_store (vs := plC _ _) rfl rfl rfl rfl rfl plC_beq plC_one rfl rfl rfl rfl (by rw [plC_len]; decide) (splice_all (plC_len.trans plC_len.symm)) ?_|refine xTh ?_|refine e_val rfl rfl rfl rfl (by first|exact pEv rfl|fail) ?_|refine e_nil rfl ?_|fail)
  refine c_unJ hD2 (fun ents2 clock2 hes2 => ?_)
  rename_i b7
  rw [hpf, Int.add_zero]
  refine c_perm perm3 ?_
  simp only [List.cons_append, List.nil_append]
  repeat ((fail_if_success refine c_probe (id := 3) ?_); (fail_if_success refine c_probe1 (id := 3) ?_); first|refine r_callv rfl rfl rfl rfl rfl (fun W hW => add0_calls bs bg k (kn l) W) ?_|refine lVa rfl rfl (v_loadAll rfl (by repeat constructor) rfl rfl plC_len) ?_|refine lVa rfl rfl (by first|exact pEv rfl|fail) ?_|refine lNi ?_|refine cRg ?_|refine cSq ?_|refine xTh ?_|fail)
  obtain ⟨s1, hs1⟩ : ∃ s1 : SL, s = s1 := ⟨_, rfl⟩
  obtain ⟨rs, hrs⟩ : ∃ rs : List DR, rs = [] := ⟨_, rfl⟩
  have j2 : s1.rows = s.rows ++ rs := by rw [hrs, hs1, List.append_nil]
  have j3 : s1.OK := hs1 ▸ hs
  have j4 : rs.map DR.dec = dec1 k l [] := by rw [hrs]; rfl
  have j5 : ∀ r ∈ rs, r.OK := fun r hr => by rw [hrs] at hr; cases hr
  refine c_perm (mem' := (b7, .cells ⟨plC k (kn q)⟩ 54 (0, 0)) :: (b5, .cells ⟨[.slice none 0 0]⟩ 70 (0, 0)) :: (b3, .cells ⟨plC k (kn l)⟩ 54 (0, 0)) :: (b.m, .map ⟨ents2⟩ clock2) :: (bq2, bxG a) :: (rowsM rs ++ s1.m bs)) (List.Perm.of_eq (by rw [hrs, hs1]; rfl)) ?_
  repeat refine cSq ?_
  refine c_new 0 7 [(1, .calO 0 (fun b => .agg ⟨plD a b⟩) (bxG a)), (4, .calL [1, 2, 3, 4, 5, 6] (mvV (free b.g q) []) (mvO k (kn q) 1 (free b.g q) []))] [(1, [0]), (4, [1, 2, 3, 4, 5, 6])] [(4, 0)] rfl (by decide +kernel) rfl ?_
  refine e_val rfl rfl rfl rfl (by first|exact vL0 rfl (by assumption) rfl (by rfl) ) ?_
  refine e_callO rfl rfl rfl rfl rfl rfl (fun W hW => desk_calls a W) (fun bq => ?_)
  refine e_val rfl rfl rfl rfl (by first|exact pEv rfl ) ?_
  refine e_val rfl rfl rfl rfl (v_loadAll rfl (by repeat constructor) rfl rfl plC_len) ?_
  refine e_callvL rfl rfl rfl rfl rfl rfl rfl (by decide) (fun _ => mvO_len) rfl (fun W hW => ?_) (fun π => ?_)
  ·have hcell := hW.cellAt (b := bq) (l := [.pointer (some ⟨a, 0, none⟩)]) (T := 49) (fr := (0, 0)) (by repeat constructor) 0
   have hmv := movD_calls b a bq k (kn q) W hn (hg.sat hW) hcell
   rw [free_flt] at hmv
   refine hmv.mono fun e W' h => ?_
   obtain ⟨π, h1, h2⟩ := movQ_L ⟨_⟩ h
   exact ⟨π, h1, fun m hm => h2 m hm⟩
  have hcok := cbP_ok (ps := free b.g q) (must := []) (π := π) hfl6 (by simp)
  obtain ⟨c, hc⟩ : ∃ c, cbP (free b.g q) [] π = c := ⟨_, rfl⟩
  rw [hc] at hcok
  have ho : mvO k (kn q) 1 (free b.g q) [] ⟨[.agg ⟨plC k (kn q)⟩, .pointer (some ⟨bq, 0, none⟩)]⟩ π = c.ms k (kn q) 1 (free b.g q) [] := by unfold mvO; rw [hc]
  have hov : mvV (free b.g q) [] ⟨[.agg ⟨plC k (kn q)⟩, .pointer (some ⟨bq, 0, none⟩)]⟩ π = c.v := by unfold mvV; rw [hc]
  refine e_nilP (mem' := (c.ms k (kn q) 1 (free b.g q) [] ++ ((b.m, .map ⟨ents2⟩ clock2) :: (rowsM rs ++ s1.m bs))) ++ ((b5, .cells ⟨[.slice none 0 0]⟩ 70 (0, 0)) :: ([(bq, bxG a), (b7, .cells ⟨plC k (kn q)⟩ 54 (0, 0))] ++ ([(b3, .cells ⟨plC k (kn l)⟩ 54 (0, 0))] ++ [(bq2, bxG a)])))) ?_ ?_
  ·refine ((perm_setL (ps := [1, 2, 3, 4, 5, 6]) (m := [some (bq, bxG a), none, none, none, none, none, none]) ?_ (by decide) ?_).symm.append_right _).trans ?_
   ·intro p hp
    simp only [List.mem_cons, List.not_mem_nil, or_false] at hp
    rcases hp with rfl | rfl | rfl | rfl | rfl | rfl <;> rfl
   ·exact mvO_len
   ·refine List.Perm.trans (List.Perm.of_eq ?_) permB
    show (mvO k (kn q) 1 (free b.g q) [] ⟨[.agg ⟨plC k (kn q)⟩, .pointer (some ⟨bq, 0, none⟩)]⟩ π ++ [(bq, bxG a)]) ++ _ = _
    rw [ho, List.append_assoc]
    rfl
  repeat (first|refine xTh ?_|refine cBl ?_|fail)
  refine c_rangeH (chH k (kn q) 1) (allCh (free b.g q) []) (fun x => x ∈ (c.ms k (kn q) 1 (free b.g q) []).map (·.1)) (c.ms k (kn q) 1 (free b.g q) [] ++ ((b.m, .map ⟨ents2⟩ clock2) :: (rowsM rs ++ s1.m bs))) (ι := RJ) (fun o => o.i)
   (fun o => gOK plE 7 (nxJ b.g k q o.i) o.q.c o.q.r /\ o.i <= (allCh (free b.g q) []).length)
   (fun o => (b5, .cells ⟨[gSl (nxJ b.g k q o.i) o.q.b o.q.c]⟩ 70 (0, 0)) :: gM plE 54 (nxJ b.g k q o.i) o.q.b o.q.r)
   (fun _ _ => False)
   ⟨0, ⟨0, 0, []⟩⟩ (show evOp _ (.tmp 27) = some c.v from congrArg some hov) (fun W W1 hW hS => cb_it c hfl6 (by simp) (fun x hx => by have := free_lt x hx; omega) (by omega) (by omega) hW (fun p hp => List.mem_append_left _ (List.mem_append_left _ hp)) hS) (fun b hb => .inr (by rw [List.map_append]; exact List.mem_append_left _ hb)) (fun x _ vs ms h => by obtain ⟨b, cap, rest, _, rfl, _⟩ := h; rfl) (by decide) rfl
   ⟨fun h => absurd rfl h, Nat.zero_le _⟩ (mSub_app (MSub.keep rfl (MSub.drop (MSub.drop (MSub.drop (MSub.drop MSub.nil))))) _)
   (env' := [(5, .pointer (some ⟨b5, 0, none⟩))]) (by repeat (first|exact .nil|refine .cons rfl (by first|rfl|(congr 1; done)|exact congrArg _ (by omega)|(simp; done)) ?_)) ?_ ?_ ?_
  ·rintro ⟨i, qn⟩ ⟨i6, i8⟩ hki vs ms hH n lp W hW hDl hol2
   simp only at i6 i8 hki hH hW hol2 ⊢
   obtain ⟨sb, scap, srest, hsg, rfl, rfl⟩ := hH
   obtain ⟨dd, hdd⟩ : ∃ dd, (allCh (free b.g q) [])[i] = dd := ⟨_, rfl⟩
   have hS2 : (allCh (free b.g q) [])[i]? = some dd := by rw [List.getElem?_eq_getElem hki, hdd]
   rw [hdd] at hsg hW hol2 ⊢
   have hdl := ch_lt (List.mem_of_getElem? hS2) free_lt
   have hns := nxJ_snoc (k := k) hS2
   have hp2 : plC ((k : Int) + 1) (putF (kn q) dd ((k : Int) + 1)) = plE (k + 1, put q dd ((k : Int) + 1)) := by
    unfold plE; rw [putF_kn (fun y hy => by have := hdl y hy; have := hpq.1; omega)]; simp
   rw [hp2]
   refine c_sub _ (List.sublist_append_right _ _) ?_
   repeat (first|refine r_alloc rfl rfl rfl (plC_zero rfl) (fun _ => ?_)|refine rSt (vs := plE _) rfl rfl rfl rfl rfl plC_beq plC_one (by repeat constructor) (putAll (plC_len.trans plC_len.symm)) ?_|refine lNi ?_|refine cRg ?_|fail)
   refine x_body hW hDl hol2 (fun n2 W2 r2 hW2 hr2 ho2 => ?_)
   rename_i b10
   repeat (first|refine lVa rfl rfl (v_loadAll rfl (by repeat constructor) rfl rfl plE_len) ?_|refine lVa rfl rfl (by first|exact vLd rfl (by repeat constructor) rfl (by rfl)|fail) ?_|refine cRg ?_|refine r_buildSlice rfl rfl rfl rfl rfl rfl (by rfl) (fun _ => ?_)|refine cBl ?_|fail)
   rename_i bn
   have hnl := nxJ_len (G := b.g) (k := k) (q := q) (i := i)
   refine r_appendZ (f := plE) (e := 54) (sz := 7) (xs := nxJ b.g k q i) (ys := [(k + 1, put q dd ((k : Int) + 1))]) (m := 1) rfl rfl rfl rfl rfl rfl rfl (.inr ⟨_, 0, rfl, news_own (by repeat constructor)⟩) (List.perm_append_comm (l₁ := [_, _, _])) i6 plE_rows rfl rfl (by omega) (by unfold maxLen; omega) (fun b8 c8 r8 hg8 => ?_)
   rw [<- hns] at hg8 ⊢
   refine l_perm (List.perm_append_comm (l₂ := [_, _, _])) ?_
   simp only [List.cons_append, List.nil_append]
   repeat (first|refine rSt (vs := [_]) rfl rfl rfl gSl_cells rfl rfl gSl_one (by repeat constructor) (by rfl) ?_|refine lNi ?_|refine x_block ?_|fail)
   exact x_next ⟨i + 1, ⟨b8, c8, r8⟩⟩ rfl ⟨hg8, hki⟩ (by repeat (first|exact .nil|refine .keep (by first|rfl|assumption) ?_|refine .drop ?_|exact MSub.refl _))
  ·rintro B ⟨i, qn⟩ hki ⟨i6, i8⟩
   simp only at hki i6 ⊢
   rw [hki] at i6 ⊢
   repeat ((fail_if_success refine c_probe (id := 6) ?_); (fail_if_success refine c_probe1 (id := 6) ?_); first|refine xTh ?_|refine x_block ?_|fail)
   refine c_perm (List.perm_append_comm.cons _) ?_
   simp only [List.cons_append, List.nil_append]
   repeat (first|refine rSt (vs := [_]) rfl rfl rfl gSl_cells rfl rfl gSl_one (by repeat constructor) (by rfl) ?_|refine lVa rfl rfl (by first|exact vLd rfl (by repeat constructor) rfl (by rfl)|fail) ?_|refine lNi ?_|refine cRg ?_|refine cSq ?_|refine xTh ?_|refine c_ret ?_|fail)
   refine x_rets (Ds := [B]) rfl rfl (Split.mark (split_self _)) rfl (by repeat constructor) rfl (fun W hW => ?_)
   refine ⟨⟨⟨⟨ents2, clock2⟩, s1, rs, qn⟩, hes2, j2, j3, j4, j5, i6⟩, rfl, ?_⟩
   rw [<- hD]
   have h1 : SatW w D noJ (gM plE 54 (nxJ b.g k q (allCh (free b.g q) []).length) qn.b qn.r ++ (c.ms k (kn q) 1 (free b.g q) [] ++ ((b.m, .map ⟨ents2⟩ clock2) :: (rowsM rs ++ s1.m bs)))) W := hW.mono (List.sublist_cons_self _ _)
   exact (h1.mono ((List.sublist_append_right _ _).append_left _)).perm (perm_by [gM plE 54 (nxJ b.g k q (allCh (free b.g q) []).length) qn.b qn.r, [(b.m, .map ⟨ents2⟩ clock2)], rowsM rs, s1.m bs] [0, 1, 2, 3] [1, 3, 2, 0] rfl (by simp) (by simp [SI.post, Mp.o]))
  ·intro B cd o h
   exact h.elim
 | cons x S =>
  repeat ((fail_if_success refine c_probe (id := 2) ?_); (fail_if_success refine c_probe1 (id := 2) ?_); first|refine e_new rfl rfl rfl rfl (n_alloc rfl (plC_zero rfl)) (fun _ => ?_)|refine e_store (vs := plC _ _) rfl rfl rfl rfl rfl plC_beq plC_one rfl rfl rfl rfl (by rw [plC_len]; decide) (splice_all (plC_len.trans plC_len.symm)) ?_|refine xTh ?_|refine e_val rfl rfl rfl rfl (by first|exact pEv rfl|fail) ?_|refine e_nil rfl ?_|fail)
  refine c_unJ hD2 (fun ents2 clock2 hes2 => ?_)
  rename_i b7
  rw [hpf, Int.add_zero]
  refine c_perm perm4 ?_
  simp only [List.cons_append, List.nil_append]
  repeat (first|refine lVa rfl rfl (by first|exact pEv rfl|exact vLd rfl (by repeat constructor) rfl (by rfl)|fail) ?_|refine cRg ?_|refine cSq ?_|fail)
  have hsl2 : s.rows.length <= 100000000 := by omega
  refine r_callvF (pre := s.m bs) rfl rfl rfl rfl rfl (List.perm_append_comm (l₁ := [_, _, _, _, _, _])) (fun W hW h1 h2 => add_calls b a bg bs k l s x S π2.b (capF 1 (x :: S).length π2.rest) (restF 1 (x :: S).length π2.rest) W hn hl.1 hl0 (hg.move hW.same (hW.allButP (List.perm_append_comm (l₁ := [_, _, _, _, _, _])))) (hbg.move hW.same (hW.allButP (List.perm_append_comm (l₁ := [_, _, _, _, _, _])))) hs hsl2 h1 h2) ?_
  rintro ⟨ai, ha1, ha2⟩
  simp only
  obtain ⟨s1, hs1⟩ : ∃ s1 : SL, SL.mk (s.rows ++ [DR.mk k l (x :: S) ai.bk ai.ck ai.rk π2.b (capF 1 (x :: S).length π2.rest) (restF 1 (x :: S).length π2.rest)]) ai.b ai.c ai.r = s1 := ⟨_, rfl⟩
  obtain ⟨rs, hrs⟩ : ∃ rs : List DR, rs = [DR.mk k l (x :: S) ai.bk ai.ck ai.rk π2.b (capF 1 (x :: S).length π2.rest) (restF 1 (x :: S).length π2.rest)] := ⟨_, rfl⟩
  have j2 : s1.rows = s.rows ++ rs := by rw [hrs, <- hs1]
  have j3 : s1.OK := by rw [<- hs1]; exact ha2
  have j4 : rs.map DR.dec = dec1 k l (x :: S) := by rw [hrs]; rfl
  have j5 : ∀ r ∈ rs, r.OK := fun r hr => by
   rw [hrs] at hr
   rw [List.mem_singleton.1 hr]
   exact ⟨ha1, gF_ok hS6 (by simp), by simp⟩
  refine l_perm (mem' := (b7, .cells ⟨plC k (kn q)⟩ 54 (0, 0)) :: (b5, .cells ⟨[.slice none 0 0]⟩ 70 (0, 0)) :: (b3, .cells ⟨plC k (kn l)⟩ 54 (0, 0)) :: (b.m, .map ⟨ents2⟩ clock2) :: (bq2, bxG a) :: (rowsM rs ++ s1.m bs)) ?_ ?_
  ·rw [hrs, <- hs1]
   exact permC.trans (List.Perm.of_eq rfl)
  repeat ((fail_if_success refine c_probe (id := 3) ?_); (fail_if_success refine c_probe1 (id := 3) ?_); first|refine lNi ?_|refine xTh ?_|fail)
  repeat refine cSq ?_
  refine c_new 0 7 [(1, .calO 0 (fun b => .agg ⟨plD a b⟩) (bxG a)), (4, .calL [1, 2, 3, 4, 5, 6] (mvV (free b.g q) []) (mvO k (kn q) 1 (free b.g q) []))] [(1, [0]), (4, [1, 2, 3, 4, 5, 6])] [(4, 0)] rfl (by decide +kernel) rfl ?_
  refine e_val rfl rfl rfl rfl (by first|exact vL0 rfl (by assumption) rfl (by rfl) ) ?_
  refine e_callO rfl rfl rfl rfl rfl rfl (fun W hW => desk_calls a W) (fun bq => ?_)
  refine e_val rfl rfl rfl rfl (by first|exact pEv rfl ) ?_
  refine e_val rfl rfl rfl rfl (v_loadAll rfl (by repeat constructor) rfl rfl plC_len) ?_
  refine e_callvL rfl rfl rfl rfl rfl rfl rfl (by decide) (fun _ => mvO_len) rfl (fun W hW => ?_) (fun π => ?_)
  ·have hcell := hW.cellAt (b := bq) (l := [.pointer (some ⟨a, 0, none⟩)]) (T := 49) (fr := (0, 0)) (by repeat constructor) 0
   have hmv := movD_calls b a bq k (kn q) W hn (hg.sat hW) hcell
   rw [free_flt] at hmv
   refine hmv.mono fun e W' h => ?_
   obtain ⟨π, h1, h2⟩ := movQ_L ⟨_⟩ h
   exact ⟨π, h1, fun m hm => h2 m hm⟩
  have hcok := cbP_ok (ps := free b.g q) (must := []) (π := π) hfl6 (by simp)
  obtain ⟨c, hc⟩ : ∃ c, cbP (free b.g q) [] π = c := ⟨_, rfl⟩
  rw [hc] at hcok
  have ho : mvO k (kn q) 1 (free b.g q) [] ⟨[.agg ⟨plC k (kn q)⟩, .pointer (some ⟨bq, 0, none⟩)]⟩ π = c.ms k (kn q) 1 (free b.g q) [] := by unfold mvO; rw [hc]
  have hov : mvV (free b.g q) [] ⟨[.agg ⟨plC k (kn q)⟩, .pointer (some ⟨bq, 0, none⟩)]⟩ π = c.v := by unfold mvV; rw [hc]
  refine e_nilP (mem' := (c.ms k (kn q) 1 (free b.g q) [] ++ ((b.m, .map ⟨ents2⟩ clock2) :: (rowsM rs ++ s1.m bs))) ++ ((b5, .cells ⟨[.slice none 0 0]⟩ 70 (0, 0)) :: ([(bq, bxG a), (b7, .cells ⟨plC k (kn q)⟩ 54 (0, 0))] ++ ([(b3, .cells ⟨plC k (kn l)⟩ 54 (0, 0))] ++ [(bq2, bxG a)])))) ?_ ?_
  ·refine ((perm_setL (ps := [1, 2, 3, 4, 5, 6]) (m := [some (bq, bxG a), none, none, none, none, none, none]) ?_ (by decide) ?_).symm.append_right _).trans ?_
   ·intro p hp
    simp only [List.mem_cons, List.not_mem_nil, or_false] at hp
    rcases hp with rfl | rfl | rfl | rfl | rfl | rfl <;> rfl
   ·exact mvO_len
   ·refine List.Perm.trans (List.Perm.of_eq ?_) permB
    show (mvO k (kn q) 1 (free b.g q) [] ⟨[.agg ⟨plC k (kn q)⟩, .pointer (some ⟨bq, 0, none⟩)]⟩ π ++ [(bq, bxG a)]) ++ _ = _
    rw [ho, List.append_assoc]
    rfl
  repeat (first|refine xTh ?_|refine cBl ?_|fail)
  refine c_rangeH (chH k (kn q) 1) (allCh (free b.g q) []) (fun x => x ∈ (c.ms k (kn q) 1 (free b.g q) []).map (·.1)) (c.ms k (kn q) 1 (free b.g q) [] ++ ((b.m, .map ⟨ents2⟩ clock2) :: (rowsM rs ++ s1.m bs))) (ι := RJ) (fun o => o.i)
   (fun o => gOK plE 7 (nxJ b.g k q o.i) o.q.c o.q.r /\ o.i <= (allCh (free b.g q) []).length)
   (fun o => (b5, .cells ⟨[gSl (nxJ b.g k q o.i) o.q.b o.q.c]⟩ 70 (0, 0)) :: gM plE 54 (nxJ b.g k q o.i) o.q.b o.q.r)
   (fun _ _ => False)
   ⟨0, ⟨0, 0, []⟩⟩ (show evOp _ (.tmp 27) = some c.v from congrArg some hov) (fun W W1 hW hS => cb_it c hfl6 (by simp) (fun x hx => by have := free_lt x hx; omega) (by omega) (by omega) hW (fun p hp => List.mem_append_left _ (List.mem_append_left _ hp)) hS) (fun b hb => .inr (by rw [List.map_append]; exact List.mem_append_left _ hb)) (fun x _ vs ms h => by obtain ⟨b, cap, rest, _, rfl, _⟩ := h; rfl) (by decide) rfl
   ⟨fun h => absurd rfl h, Nat.zero_le _⟩ (mSub_app (MSub.keep rfl (MSub.drop (MSub.drop (MSub.drop (MSub.drop MSub.nil))))) _)
   (env' := [(5, .pointer (some ⟨b5, 0, none⟩))]) (by repeat (first|exact .nil|refine .cons rfl (by first|rfl|(congr 1; done)|exact congrArg _ (by omega)|(simp; done)) ?_)) ?_ ?_ ?_
  ·rintro ⟨i, qn⟩ ⟨i6, i8⟩ hki vs ms hH n lp W hW hDl hol2
   simp only at i6 i8 hki hH hW hol2 ⊢
   obtain ⟨sb, scap, srest, hsg, rfl, rfl⟩ := hH
   obtain ⟨dd, hdd⟩ : ∃ dd, (allCh (free b.g q) [])[i] = dd := ⟨_, rfl⟩
   have hS2 : (allCh (free b.g q) [])[i]? = some dd := by rw [List.getElem?_eq_getElem hki, hdd]
   rw [hdd] at hsg hW hol2 ⊢
   have hdl := ch_lt (List.mem_of_getElem? hS2) free_lt
   have hns := nxJ_snoc (k := k) hS2
   have hp2 : plC ((k : Int) + 1) (putF (kn q) dd ((k : Int) + 1)) = plE (k + 1, put q dd ((k : Int) + 1)) := by
    unfold plE; rw [putF_kn (fun y hy => by have := hdl y hy; have := hpq.1; omega)]; simp
   rw [hp2]
   refine c_sub _ (List.sublist_append_right _ _) ?_
   repeat (first|refine r_alloc rfl rfl rfl (plC_zero rfl) (fun _ => ?_)|refine rSt (vs := plE _) rfl rfl rfl rfl rfl plC_beq plC_one (by repeat constructor) (putAll (plC_len.trans plC_len.symm)) ?_|refine lNi ?_|refine cRg ?_|fail)
   refine x_body hW hDl hol2 (fun n2 W2 r2 hW2 hr2 ho2 => ?_)
   rename_i b10
   repeat (first|refine lVa rfl rfl (v_loadAll rfl (by repeat constructor) rfl rfl plE_len) ?_|refine lVa rfl rfl (by first|exact vLd rfl (by repeat constructor) rfl (by rfl)|fail) ?_|refine cRg ?_|refine r_buildSlice rfl rfl rfl rfl rfl rfl (by rfl) (fun _ => ?_)|refine cBl ?_|fail)
   rename_i bn
   have hnl := nxJ_len (G := b.g) (k := k) (q := q) (i := i)
   refine r_appendZ (f := plE) (e := 54) (sz := 7) (xs := nxJ b.g k q i) (ys := [(k + 1, put q dd ((k : Int) + 1))]) (m := 1) rfl rfl rfl rfl rfl rfl rfl (.inr ⟨_, 0, rfl, news_own (by repeat constructor)⟩) (List.perm_append_comm (l₁ := [_, _, _])) i6 plE_rows rfl rfl (by omega) (by unfold maxLen; omega) (fun b8 c8 r8 hg8 => ?_)
   rw [<- hns] at hg8 ⊢
   refine l_perm (List.perm_append_comm (l₂ := [_, _, _])) ?_
   simp only [List.cons_append, List.nil_append]
   repeat (first|refine rSt (vs := [_]) rfl rfl rfl gSl_cells rfl rfl gSl_one (by repeat constructor) (by rfl) ?_|refine lNi ?_|refine x_block ?_|fail)
   exact x_next ⟨i + 1, ⟨b8, c8, r8⟩⟩ rfl ⟨hg8, hki⟩ (by repeat (first|exact .nil|refine .keep (by first|rfl|assumption) ?_|refine .drop ?_|exact MSub.refl _))
  ·rintro B ⟨i, qn⟩ hki ⟨i6, i8⟩
   simp only at hki i6 ⊢
   rw [hki] at i6 ⊢
   repeat ((fail_if_success refine c_probe (id := 6) ?_); (fail_if_success refine c_probe1 (id := 6) ?_); first|refine xTh ?_|refine x_block ?_|fail)
   refine c_perm (List.perm_append_comm.cons _) ?_
   simp only [List.cons_append, List.nil_append]
   repeat (first|refine rSt (vs := [_]) rfl rfl rfl gSl_cells rfl rfl gSl_one (by repeat constructor) (by rfl) ?_|refine lVa rfl rfl (by first|exact vLd rfl (by repeat constructor) rfl (by rfl)|fail) ?_|refine lNi ?_|refine cRg ?_|refine cSq ?_|refine xTh ?_|refine c_ret ?_|fail)
   refine x_rets (Ds := [B]) rfl rfl (Split.mark (split_self _)) rfl (by repeat constructor) rfl (fun W hW => ?_)
   refine ⟨⟨⟨⟨ents2, clock2⟩, s1, rs, qn⟩, hes2, j2, j3, j4, j5, i6⟩, rfl, ?_⟩
   rw [<- hD]
   have h1 : SatW w D noJ (gM plE 54 (nxJ b.g k q (allCh (free b.g q) []).length) qn.b qn.r ++ (c.ms k (kn q) 1 (free b.g q) [] ++ ((b.m, .map ⟨ents2⟩ clock2) :: (rowsM rs ++ s1.m bs)))) W := hW.mono (List.sublist_cons_self _ _)
   exact (h1.mono ((List.sublist_append_right _ _).append_left _)).perm (perm_by [gM plE 54 (nxJ b.g k q (allCh (free b.g q) []).length) qn.b qn.r, [(b.m, .map ⟨ents2⟩ clock2)], rowsM rs, s1.m bs] [0, 1, 2, 3] [1, 3, 2, 0] rfl (by simp) (by simp [SI.post, Mp.o]))
  ·intro B cd o h
   exact h.elim
end R24
end Go.Proofs

namespace Go.Proofs
open Go.RowKit Go.Kin Go.Kin.St Go.Kin.Ct Go.Kin.Sg Go.Shelf
namespace R24
def renS : Ren := ⟨fun i => if i = 6 then 69 else if i = 14 then 91 else if i = 15 then 92 else if i = 20 then 98 else if i = 21 then 99 else if i = 22 then 100 else if i = 23 then 101 else if i = 24 then 102 else if i = 25 then 103 else if i = 26 then 104 else if i = 27 then 105 else if i = 28 then 106 else if i = 29 then 107 else if i = 46 then 108 else if i = 47 then 109 else if i = 48 then 110 else if i = 49 then 111 else if i = 50 then 112 else if i = 57 then 113 else 0, fun i => if i = 0 then 0 else if i = 3 then 3 else if i = 4 then 4 else if i = 5 then 5 else if i = 9 then 9 else if i = 22 then 25 else if i = 24 then 39 else if i = 25 then 87 else if i = 39 then 137 else if i = 45 then 143 else if i = 46 then 144 else if i = 50 then 148 else if i = 53 then 151 else if i = 55 then 110 else if i = 66 then 153 else if i = 70 then 157 else if i = 76 then 159 else if i = 77 then 160 else 0, fun i => i⟩
def TyF (t sz : Nat) (z : Value) : Prop := (∀ w, (isAgg t).run Tryz.prog w = .ok false w) /\ (∀ w, (Go.sizeOf t).run Tryz.prog w = .ok sz w) /\ (∀ w, (zeroValue t).run Tryz.prog w = .ok z w)
theorem ty_facts {t : Nat} {d : TypeDesc} {sz : Nat} {z : Value} (hu : Tryz.prog.underlying t = some d) (hd : (match d with | .struct _ | .array .. => false | _ => true) = true) (hi : (Tryz.prog.info? t).map (fun i => (i.zero, i.size)) = some (some z, sz)) : TyF t sz z := by
 cases h : Tryz.prog.info? t with
 | none => rw [h] at hi; cases hi
 | some i =>
  rw [h] at hi
  simp only [Option.map_some, Option.some.injEq, Prod.mk.injEq] at hi
  obtain ⟨h1, h2⟩ := hi
  refine ⟨fun w => ?_, fun w => ?_, fun w => ?_⟩
  ·simp only [isAgg, Sem.run_bind, run_und hu, Result.andThen_ok]
   cases d <;> first|rfl|cases hd
  ·rw [run_size h, h2]
  ·simp only [zeroValue, Sem.run_bind, run_info h, Result.andThen_ok, h1]; rfl
theorem sf0 : Tryz.prog.underlying 0 = some (TypeDesc.tuple #[]) := by kernel_rfl
theorem sg0 : TyF 0 1 (Value.tuple #[]) := ty_facts sf0 rfl (by kernel_rfl)
theorem sf3 : Tryz.prog.underlying 3 = some (TypeDesc.int IntKind.i64) := by kernel_rfl
theorem sg3 : TyF 3 1 (Value.int IntKind.i64 0) := ty_facts sf3 rfl (by kernel_rfl)
theorem sf4 : Tryz.prog.underlying 4 = some (TypeDesc.bool) := by kernel_rfl
theorem sg4 : TyF 4 1 (Value.bool false) := ty_facts sf4 rfl (by kernel_rfl)
theorem sf5 : Tryz.prog.underlying 5 = some (TypeDesc.int IntKind.u8) := by kernel_rfl
theorem sg5 : TyF 5 1 (Value.int IntKind.u8 0) := ty_facts sf5 rfl (by kernel_rfl)
theorem sf9 : Tryz.prog.underlying 9 = some (TypeDesc.string) := by kernel_rfl
theorem sg9 : TyF 9 1 (Value.string { data := #[] }) := ty_facts sf9 rfl (by kernel_rfl)
theorem sf22 : Tryz.prog.underlying 25 = some (TypeDesc.slice 39) := by kernel_rfl
theorem sg22 : TyF 25 1 (Value.slice none 0 0) := ty_facts sf22 rfl (by kernel_rfl)
theorem sf25 : Tryz.prog.underlying 87 = some (TypeDesc.func #[39, 39] #[3] false) := by kernel_rfl
theorem sg25 : TyF 87 1 (Value.nilFunc) := ty_facts sf25 rfl (by kernel_rfl)
theorem sf39 : Tryz.prog.underlying 137 = some (TypeDesc.int IntKind.u64) := by kernel_rfl
theorem sg39 : TyF 137 1 (Value.int IntKind.u64 0) := ty_facts sf39 rfl (by kernel_rfl)
theorem sf45 : Tryz.prog.underlying 143 = some (TypeDesc.int IntKind.i64) := by kernel_rfl
theorem sg45 : TyF 143 1 (Value.int IntKind.i64 0) := ty_facts sf45 rfl (by kernel_rfl)
theorem sf46 : Tryz.prog.underlying 144 = some (TypeDesc.tuple #[3, 143]) := by kernel_rfl
theorem sg46 : TyF 144 1 (Value.tuple #[Value.int IntKind.i64 0, Value.int IntKind.i64 0]) := ty_facts sf46 rfl (by kernel_rfl)
theorem sf50 : Tryz.prog.underlying 148 = some (TypeDesc.tuple #[3, 4]) := by kernel_rfl
theorem sg50 : TyF 148 1 (Value.tuple #[Value.int IntKind.i64 0, Value.bool false]) := ty_facts sf50 rfl (by kernel_rfl)
theorem sf53 : Tryz.prog.underlying 151 = some (TypeDesc.int IntKind.u32) := by kernel_rfl
theorem sg53 : TyF 151 1 (Value.int IntKind.u32 0) := ty_facts sf53 rfl (by kernel_rfl)
theorem sf55 : Tryz.prog.underlying 110 = some (TypeDesc.int IntKind.u64) := by kernel_rfl
theorem sg55 : TyF 110 1 (Value.int IntKind.u64 0) := ty_facts sf55 rfl (by kernel_rfl)
theorem sf66 : Tryz.prog.underlying 153 = some (TypeDesc.int IntKind.u64) := by kernel_rfl
theorem sg66 : TyF 153 1 (Value.int IntKind.u64 0) := ty_facts sf66 rfl (by kernel_rfl)
theorem sf70 : Tryz.prog.underlying 157 = some (TypeDesc.pointer 3) := by kernel_rfl
theorem sg70 : TyF 157 1 (Value.pointer none) := ty_facts sf70 rfl (by kernel_rfl)
theorem sf76 : Tryz.prog.underlying 159 = some (TypeDesc.pointer 153) := by kernel_rfl
theorem sg76 : TyF 159 1 (Value.pointer none) := ty_facts sf76 rfl (by kernel_rfl)
theorem sf77 : Tryz.prog.underlying 160 = some (TypeDesc.tuple #[3, 3]) := by kernel_rfl
theorem sg77 : TyF 160 1 (Value.tuple #[Value.int IntKind.i64 0, Value.int IntKind.i64 0]) := ty_facts sf77 rfl (by kernel_rfl)
theorem laySort : SlLaysF0.n6 Tryz.prog renS where
 mixed := by kernel_rfl
 f6 := ⟨"slices.SortFunc[[]kinesphere/api.Decision,kinesphere/api.Decision]", by decide, by kernel_rfl⟩
 f14 := ⟨"slices.pdqsortCmpFunc[kinesphere/api.Decision]", by decide, by kernel_rfl⟩
 f15 := by kernel_rfl
 f20 := ⟨"slices.insertionSortCmpFunc[kinesphere/api.Decision]", by decide, by kernel_rfl⟩
 f21 := ⟨"slices.heapSortCmpFunc[kinesphere/api.Decision]", by decide, by kernel_rfl⟩
 f22 := ⟨"slices.breakPatternsCmpFunc[kinesphere/api.Decision]", by decide, by kernel_rfl⟩
 f23 := ⟨"slices.choosePivotCmpFunc[kinesphere/api.Decision]", by decide, by kernel_rfl⟩
 f24 := ⟨"slices.reverseRangeCmpFunc[kinesphere/api.Decision]", by decide, by kernel_rfl⟩
 f25 := ⟨"slices.partialInsertionSortCmpFunc[kinesphere/api.Decision]", by decide, by kernel_rfl⟩
 f26 := ⟨"slices.partitionEqualCmpFunc[kinesphere/api.Decision]", by decide, by kernel_rfl⟩
 f27 := ⟨"slices.partitionCmpFunc[kinesphere/api.Decision]", by decide, by kernel_rfl⟩
 f28 := by kernel_rfl
 f29 := by kernel_rfl
 f46 := ⟨"slices.siftDownCmpFunc[kinesphere/api.Decision]", by decide, by kernel_rfl⟩
 f47 := by kernel_rfl
 f48 := by kernel_rfl
 f49 := ⟨"slices.medianAdjacentCmpFunc[kinesphere/api.Decision]", by decide, by kernel_rfl⟩
 f50 := ⟨"slices.medianCmpFunc[kinesphere/api.Decision]", by decide, by kernel_rfl⟩
 f57 := ⟨"slices.order2CmpFunc[kinesphere/api.Decision]", by decide, by kernel_rfl⟩
 t0 := sf0
 a0 := sg0.1
 z0 := sg0.2.1
 v0 := sg0.2.2
 t3 := sf3
 a3 := sg3.1
 z3 := sg3.2.1
 v3 := sg3.2.2
 t4 := sf4
 a4 := sg4.1
 z4 := sg4.2.1
 v4 := sg4.2.2
 t5 := sf5
 a5 := sg5.1
 z5 := sg5.2.1
 v5 := sg5.2.2
 t9 := sf9
 a9 := sg9.1
 z9 := sg9.2.1
 v9 := sg9.2.2
 t22 := sf22
 a22 := sg22.1
 z22 := sg22.2.1
 v22 := sg22.2.2
 t25 := sf25
 a25 := sg25.1
 z25 := sg25.2.1
 v25 := sg25.2.2
 t39 := sf39
 a39 := sg39.1
 z39 := sg39.2.1
 v39 := sg39.2.2
 t45 := sf45
 a45 := sg45.1
 z45 := sg45.2.1
 v45 := sg45.2.2
 t46 := sf46
 a46 := sg46.1
 z46 := sg46.2.1
 v46 := sg46.2.2
 t50 := sf50
 a50 := sg50.1
 z50 := sg50.2.1
 v50 := sg50.2.2
 t53 := sf53
 a53 := sg53.1
 z53 := sg53.2.1
 v53 := sg53.2.2
 t55 := sf55
 a55 := sg55.1
 z55 := sg55.2.1
 v55 := sg55.2.2
 t66 := sf66
 a66 := sg66.1
 z66 := sg66.2.1
 v66 := sg66.2.2
 t70 := sf70
 a70 := sg70.1
 z70 := sg70.2.1
 v70 := sg70.2.2
 t76 := sf76
 a76 := sg76.1
 z76 := sg76.2.1
 v76 := sg76.2.2
 t77 := sf77
 a77 := sg77.1
 z77 := sg77.2.1
 v77 := sg77.2.2
end R24
end Go.Proofs

namespace Go.Proofs
open Go.RowKit Go.Kin Go.Kin.St Go.Kin.Ct Go.Kin.Sg
namespace R24
def cmpI (x y : Int) : Int := if x < y then -1 else if y < x then 1 else 0
def cmpL : List Int -> List Int -> Int
 | x :: a, y :: b => if x < y then -1 else if y < x then 1 else cmpL a b
 | _, _ => 0
theorem cmpL_same : ∀ (a : List Int), cmpL a a = 0
 | [] => rfl
 | x :: a => by rw [cmpL, if_neg (by omega), if_neg (by omega), cmpL_same a]
theorem cmpL_at : ∀ {a b : List Int} {k : Nat} {x y : Int}, (∀ i, i < k -> a[i]? = b[i]?) -> a[k]? = some x -> b[k]? = some y -> x ≠ y -> cmpL a b = cmpI x y
 | u :: a, v :: b, 0, x, y, _, ha, hb, hne => by
  cases ha; cases hb
  unfold cmpI
  rw [cmpL]
  by_cases h1 : u < v
  ·rw [if_pos h1, if_pos h1]
  ·rw [if_neg h1, if_neg h1, if_pos (by omega), if_pos (by omega)]
 | u :: a, v :: b, k + 1, x, y, h, ha, hb, hne => by
  have h0 := h 0 (by omega)
  simp only [List.getElem?_cons_zero, Option.some.injEq] at h0
  subst h0
  rw [cmpL, if_neg (by omega), if_neg (by omega)]
  exact cmpL_at (k := k) (fun i hi => by simpa using h (i + 1) (by omega)) (by simpa using ha) (by simpa using hb) hne
theorem nan_any (x : Int) (w : World) : Calls Tryz.prog 96 #[.int .i64 x] w fun e w' => e = .returned (.bool false) /\ w' = w := by
 go_enter Tryz.func96, Tryz.ntmps96
 go_wp2
 go_ret
 exact ⟨by simp, rfl⟩
theorem cmp89_any (x y : Int) (w : World) : Calls Tryz.prog 80 #[.int .i64 x, .int .i64 y] w fun e w' => e = .returned (.int .i64 (cmpI x y)) /\ w' = w := by
 rcases Int.lt_trichotomy x y with h | h | h
 ·have H : Hid (cmpI x y = -1) := Lib.hid (by simp [cmpI, h])
  go_enter Tryz.func80, Tryz.ntmps80
  go_wp2_with (go_at_call 96; refine (nan_any _ _).mono ?_; rintro e w' ⟨rfl, rfl⟩)
  go_ret
  exact ⟨by rw [H.out]; rfl, rfl⟩
 ·have H : Hid (cmpI x y = 0) := Lib.hid (by simp [cmpI, h])
  subst h
  go_enter Tryz.func80, Tryz.ntmps80
  go_wp2_with (go_at_call 96; refine (nan_any _ _).mono ?_; rintro e w' ⟨rfl, rfl⟩)
  go_ret
  exact ⟨by rw [H.out]; rfl, rfl⟩
 ·have H : Hid (cmpI x y = 1) := Lib.hid (by unfold cmpI; rw [if_neg (by omega), if_pos h])
  have h' : ¬ x < y := by omega
  go_enter Tryz.func80, Tryz.ntmps80
  go_wp2_with (go_at_call 96; refine (nan_any _ _).mono ?_; rintro e w' ⟨rfl, rfl⟩)
  go_ret
  exact ⟨by rw [H.out]; rfl, rfl⟩
end R24
end Go.Proofs
