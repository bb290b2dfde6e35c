/- Games on networks: whether the others win with a strategy, as the specification asks it. -/
import Derived.Test.YtcodoembnjemkaaGreatSgX6
set_option maxRecDepth 100000
set_option maxHeartbeats 400000000
set_option linter.unusedSectionVars false
set_option linter.unusedVariables false
set_option linter.unusedSimpArgs false
namespace Go.Proofs
open Go.RowKit Go.Kin Go.Kin.St Go.Kin.Ct Go.Kin.Sg
namespace R24
noncomputable def spP (G : Gm) (t : Tab) (f k : Nat) (l : List Int) : Bool := @decide (Sp G t f k l) (Classical.propDecidable _)
theorem spP_iff {G : Gm} {t : Tab} {f k : Nat} {l : List Int} : spP G t f k l = true ↔ Sp G t f k l := @decide_eq_true_iff _ (Classical.propDecidable _)
theorem spP_end {G : Gm} {t : Tab} {k : Nat} {l : List Int} : spP G t 0 k l = !(kpB G l) := by
 rw [Bool.eq_iff_iff, spP_iff, Bool.not_eq_true', <- Bool.not_eq_true]
 show ¬ keptP G l ↔ _
 unfold kpB
 rw [@decide_eq_true_iff _ (Classical.propDecidable _)]
/-- what the specification's choice finds, for the others -/
theorem rwV_decS {n T : Nat} {S : Option Addr} {rows : List DW} {w : World} (hS : StrIn w S rows) (hok : okS n T rows) (hdl : ∀ r ∈ rows, r.d.length <= 1000) (G : Gm) (k : Nat) (l : List Int) :
  ∃ (D : Option Addr) (cd m : Nat) (b : Bool), rwV rows k l = [.slice D m cd, .bool b] /\ ((b = true /\ m = (doS G (tabW rows) k l).length /\ m <= 1000 /\ At w D 1 ((doS G (tabW rows) k l).map nE)) ∨ (b = false /\ doS G (tabW rows) k l = Sg.due G k l)) := by
 cases hr : rowOf rows k l with
 | none =>
  refine ⟨none, 0, 0, false, rwV_none hr, .inr ⟨rfl, ?_⟩⟩
  unfold doS tabW; rw [hr]; rfl
 | some r =>
  obtain ⟨h1, h2, h3⟩ := rowOf_some hr
  obtain ⟨j, hj, e⟩ := List.mem_iff_getElem.1 h1
  have ho := (hok j r (by rw [List.getElem?_eq_getElem hj, e])).o
  have hd : doS G (tabW rows) k l = toN r.d := by unfold doS tabW; rw [hr]; rfl
  have hb : ∀ x ∈ r.d, 0 <= x /\ x < n := fun x hx => by
   obtain ⟨q, hq, e⟩ := List.mem_iff_getElem.1 hx
   obtain ⟨g1, g2, _⟩ := pv_inc ho (by rw [List.getElem?_eq_getElem hq, e] : r.d[q]? = some x)
   exact ⟨g1, g2⟩
  refine ⟨r.D, r.cd, r.d.length, true, rwV_some hr, .inl ⟨rfl, ?_, hdl r h1, ?_⟩⟩
  ·rw [hd]; unfold toN; rw [List.length_map]
  ·rw [hd, <- d_rows hb]; exact hS.d r h1
theorem oth34_end (n : Nat) (A : Option Addr) (cap : Nat) (L : List Lk) (B : Option Addr) (cab : Nat) (C : List Lk) (T : Nat) (S : Option Addr) (cs m : Nat) (t : Tab) (hG : RfG n T L C) (K : Option Addr) (ck : Nat) (l : List Int) (w : World) (hA : (⟨n, A, cap, L, B, cab, C⟩ : R23.Un).In w) (hK : At w K 1 (l.map inE)) (hln : l.length = n) (hbd : ∀ q, 0 <= kn l q /\ kn l q <= (T : Int) + 1) :
  Calls Tryz.prog 34 ⟨[.agg ⟨[.int .i64 n, .slice A L.length cap, .slice B C.length cab]⟩, .int .i64 T, .int .i64 ((T : Int) + 1), .slice S m cs, .slice K l.length ck]⟩ w fun e w' => e = .returned (.bool (spP ⟨n, T, L, C⟩ t 0 (T + 1) l)) /\ Below w.heap.size w w' := by
 have hT := hG.T
 have hb : ∀ x ∈ l, 0 <= x /\ x <= 1000 := fun x hx => by
  obtain ⟨q, hq⟩ := List.getElem?_of_mem hx
  have := hbd q
  rw [kn_get hq] at this
  omega
 have hk : ∀ (mem : List (Nat × Obj)) (W : World), SatW w (base w) noJ mem W -> Calls Tryz.prog 59 ⟨[.agg ⟨[.int .i64 n, .slice A L.length cap, .slice B C.length cab]⟩, .slice K l.length ck]⟩ W fun e w' => e = .returned (.bool (kpB ⟨n, T, L, C⟩ l)) /\ Below W.heap.size W w' := fun mem W hW =>
  kept59_calls n A cap L B cab C T K ck l W (hA.sat hW) (hK.sat hW) hln (by have := hG.n6; omega) hG.l hb hG.ck
 refine fEn Tryz.func34 rfl Tryz.ntmps34 rfl rfl (sWn w) ?_
 repeat (first|refine lVa rfl rfl (by first|exact pEv rfl|exact vLd rfl (by repeat constructor) rfl (by rfl)|fail) ?_|refine lNi ?_|refine cRg ?_|refine cSq ?_|refine xTh ?_|refine r_box rfl rfl rfl rfl (fun _ => ?_)|refine c_dec_t rfl (by first|omega|fail) ?_|fail)
 refine r_call rfl rfl rfl (fun W hW => hk _ W hW) ?_
 repeat (first|refine lVa rfl rfl (by first|exact pEv rfl|fail) ?_|refine lNi ?_|refine xTh ?_|refine c_ret ?_|refine xTr ?_|fail)
 exact x_ret rfl rfl (by repeat constructor) rfl (fun W hW => ⟨by rw [spP_end], hW.below⟩)
theorem oth34_step (n : Nat) (A : Option Addr) (cap : Nat) (L : List Lk) (B : Option Addr) (cab : Nat) (C : List Lk) (T : Nat) (S : Option Addr) (cs : Nat) (rows : List DW) (hG : RfG n T L C) (hrl : rows.length <= 1000000) (hok : okS n T rows) (hdl : ∀ r ∈ rows, r.d.length <= 1000)
  (f k : Nat) (hkf : k + f = T)
  (ih : ∀ (K : Option Addr) (ck : Nat) (l : List Int) (w : World), (⟨n, A, cap, L, B, cab, C⟩ : R23.Un).In w -> StrIn w S rows -> At w K 1 (l.map inE) -> l.length = n -> (∀ q, 0 <= kn l q /\ kn l q <= (k : Int) + 1) -> Calls Tryz.prog 34 ⟨[.agg ⟨[.int .i64 n, .slice A L.length cap, .slice B C.length cab]⟩, .int .i64 T, .int .i64 ((k : Int) + 1), .slice S rows.length cs, .slice K l.length ck]⟩ w fun e w' => e = .returned (.bool (spP ⟨n, T, L, C⟩ (tabW rows) f (k + 1) l)) /\ Below w.heap.size w w')
  (K : Option Addr) (ck : Nat) (l : List Int) (w : World) (hA : (⟨n, A, cap, L, B, cab, C⟩ : R23.Un).In w) (hS : StrIn w S rows) (hK : At w K 1 (l.map inE)) (hln : l.length = n) (hbd : ∀ q, 0 <= kn l q /\ kn l q <= k) :
  Calls Tryz.prog 34 ⟨[.agg ⟨[.int .i64 n, .slice A L.length cap, .slice B C.length cab]⟩, .int .i64 T, .int .i64 k, .slice S rows.length cs, .slice K l.length ck]⟩ w fun e w' => e = .returned (.bool (spP ⟨n, T, L, C⟩ (tabW rows) (f + 1) k l)) /\ Below w.heap.size w w' := by
 have hn0 := hG.n0
 have hn6 := hG.n6
 have hT := hG.T
 have hc := hG.c
 obtain ⟨G, hGe⟩ : ∃ G : Gm, (⟨n, T, L, C⟩ : Gm) = G := ⟨_, rfl⟩
 have hmay := fun (mem : List (Nat × Obj)) (W : World) (hW : SatW w (base w) noJ mem W) => may60_calls n A cap L B cab C T k K ck l W (hA.sat hW) (hK.sat hW) hln (by omega) (by omega) hc hG.C hbd
 rw [hGe] at ih hmay ⊢
 obtain ⟨my, hmy⟩ : ∃ my, may G k l = my := ⟨_, rfl⟩
 obtain ⟨du, hdu⟩ : ∃ du, Sg.due G k l = du := ⟨_, rfl⟩
 rw [hmy, hdu] at hmay
 have hml : my.length <= 6 := by rw [<- hmy]; exact Nat.le_trans filt_len (by rw [<- hGe]; exact hn6)
 have hdl2 : du.length <= 6 := by rw [<- hdu]; exact Nat.le_trans filt_len (by rw [<- hGe]; exact hn6)
 obtain ⟨dS, hdS⟩ : ∃ dS, doS G (tabW rows) k l = dS := ⟨_, rfl⟩
 have hmyn : ∀ q ∈ my, q < n := fun q hq => by
  rw [<- hmy] at hq
  have h2 := may_lt hq
  rw [<- hGe] at h2
  exact h2
 refine fEn Tryz.func34 rfl Tryz.ntmps34 rfl rfl (sWn w) ?_
 repeat (first|refine lVa rfl rfl (by first|exact pEv rfl|exact vLd rfl (by repeat constructor) rfl (by rfl)|fail) ?_|refine lNi ?_|refine cRg ?_|refine cSq ?_|refine xTh ?_|refine r_box rfl rfl rfl rfl (fun _ => ?_)|refine c_dec_f rfl (by first|omega|fail) ?_|refine cSk ?_|fail)
 refine r_call2 (ι := { i : My // i.OK my du }) (v := fun i => .tuple ⟨[.slice (some ⟨i.1.b, 0, none⟩) my.length i.1.c, .slice (some ⟨i.1.b2, 0, none⟩) du.length i.1.c2]⟩) (bk := fun i => i.1.b) (bk2 := fun i => i.1.b2) (o := fun i => .cells ⟨flI (castL my) ++ i.1.r⟩ 3 (0, 0)) (o2 := fun i => .cells ⟨flI (castL du) ++ i.1.r2⟩ 3 (0, 0)) rfl rfl rfl (fun W hW => hmay _ W hW) (fun s => ?_)
 obtain ⟨⟨mb, mc, mr, db, dc, dr⟩, hm1, hm2⟩ := s
 simp only
 repeat (first|refine lVa rfl rfl (by first|exact pEv rfl|fail) ?_|refine lNi ?_|refine cRg ?_|refine cSq ?_|refine xTh ?_|fail)
 rename_i b5
 refine r_call rfl rfl rfl (fun W hW => choice67_calls S cs rows k K ck l W (hS.later hW.below) (by omega) (hK.sat hW) (fun r hr => by
  obtain ⟨j, hj, e⟩ := List.mem_iff_getElem.1 hr
  rw [hln]; exact (hok j r (by rw [List.getElem?_eq_getElem hj, e])).l) (by omega) (by omega)) ?_
 obtain ⟨D, cd, m, bq, hrw, hcase⟩ := rwV_decS hS hok hdl G k l
 rw [hdS, hdu] at hcase
 rw [hrw]
 repeat ((fail_if_success refine c_probe (id := 5) ?_); (fail_if_success refine c_probe1 (id := 5) ?_); first|refine lVa rfl rfl (by first|exact pEv rfl|fail) ?_|refine lNi ?_|refine xTh ?_|fail)
 refine c_joinI (ι := Option Addr × Nat) (fun i => dS.length <= 1000 /\ ∀ W, SatW w (base w) noJ [(db, .cells ⟨flI (castL du) ++ dr⟩ 3 (0, 0)), (mb, .cells ⟨flI (castL my) ++ mr⟩ 3 (0, 0)), (b5, .cells ⟨[.int .i64 n, .slice A L.length cap, .slice B C.length cab]⟩ 24 (0, 0))] W -> At W i.1 1 (dS.map nE)) (fun i => [(1, .int .i64 T), (2, .int .i64 k), (3, .slice S rows.length cs), (4, .slice K l.length ck), (5, .pointer (some ⟨b5, 0, none⟩)), (11, .slice (some ⟨mb, 0, none⟩) my.length mc), (12, .slice (some ⟨db, 0, none⟩) du.length dc), (13, .slice i.1 dS.length i.2)])
  (fun _ => [(db, .cells ⟨flI (castL du) ++ dr⟩ 3 (0, 0)), (mb, .cells ⟨flI (castL my) ++ mr⟩ 3 (0, 0)), (b5, .cells ⟨[.int .i64 n, .slice A L.length cap, .slice B C.length cab]⟩ 24 (0, 0))]) ?_ ?_
 ·rcases hcase with ⟨rfl, rfl, h3, h4⟩ | ⟨rfl, h2⟩
  ·repeat (first|refine lVa rfl rfl (by first|exact pEv rfl|fail) ?_|refine lNi ?_|refine cRg ?_|refine cSq ?_|refine xTh ?_|refine c_false rfl ?_|refine cSk ?_|fail)
   exact x_midI (D, cd) ⟨h3, fun W hW => h4.sat hW⟩ (by repeat (first|exact .nil|refine .cons rfl (by first|rfl|(congr 1; done)|exact congrArg _ (by omega)|(simp; done)) ?_)) (by repeat (first|exact .nil|refine .keep (by first|rfl|assumption) ?_|refine .drop ?_|exact MSub.refl _))
  ·repeat (first|refine lVa rfl rfl (by first|exact pEv rfl|fail) ?_|refine lNi ?_|refine cRg ?_|refine cSq ?_|refine xTh ?_|refine c_true rfl ?_|fail)
   exact x_midI (some ⟨db, 0, none⟩, dc) ⟨by rw [h2]; omega, fun W hW => by rw [h2, <- castL_rows]; exact at_flI hW (by repeat constructor)⟩ (by rw [h2]; exact (by repeat (first|exact .nil|refine .cons rfl (by first|rfl|(congr 1; done)|exact congrArg _ (by omega)|(simp; done)) ?_))) (by repeat (first|exact .nil|refine .keep (by first|rfl|assumption) ?_|refine .drop ?_|exact MSub.refl _))
 rintro ⟨X, xc⟩ ⟨hxl, hX⟩
 simp only at hX ⊢
 have hVT : spP G (tabW rows) (f + 1) k l = true ↔ (∀ x ∈ dS, x ∈ my) /\ (∀ x ∈ du, x ∈ dS) /\ ∀ D, List.Sublist D (free G (put l dS (k + 1))) -> spP G (tabW rows) f (k + 1) (put (put l dS (k + 1)) D (k + 1)) = true := by
  rw [spP_iff, <- hdS, <- hmy, <- hdu]
  exact ⟨fun h => ⟨h.1, h.2.1, fun D hD => spP_iff.2 (h.2.2 D hD)⟩, fun h => ⟨h.1, h.2.1, fun D hD => spP_iff.1 (h.2.2 D hD)⟩⟩
 have hfal : ∀ (P : Prop), (spP G (tabW rows) (f + 1) k l = true -> P) -> ¬ P -> spP G (tabW rows) (f + 1) k l = false := fun P h hp => by
  cases hv : spP G (tabW rows) (f + 1) k l with
  | false => rfl
  | true => exact absurd (h hv) hp
 have hcs : ∀ {a b : List Nat}, (∀ x ∈ castL a, x ∈ castL b) ↔ ∀ x ∈ a, x ∈ b := fun {a b} => by
  unfold castL
  constructor
  ·intro h x hx
   obtain ⟨z, hz, e⟩ := List.mem_map.1 (h x (List.mem_map.2 ⟨x, hx, rfl⟩))
   have : z = x := by omega
   rw [<- this]; exact hz
  ·intro h x hx
   obtain ⟨z, hz, rfl⟩ := List.mem_map.1 hx
   exact List.mem_map.2 ⟨z, h z hz, rfl⟩
 have hall : ∀ (P Q : Option Addr) (pc qc : Nat) (a b : List Nat) (bb : Bool) (W : World), At W P 1 (a.map nE) -> At W Q 1 (b.map nE) -> a.length <= 1000 -> b.length <= 1000 -> (bb = true ↔ ∀ x ∈ a, x ∈ b) -> Calls Tryz.prog 64 ⟨[.slice P a.length pc, .slice Q b.length qc]⟩ W fun e w' => e = .returned (.bool bb) /\ Below W.heap.size W w' := fun P Q pc qc a b bb W h1 h2 h3 h4 h5 => by
  have := all64_calls P Q pc qc (castL a) (castL b) bb W (by rw [castL_rows]; exact h1) (by rw [castL_rows]; exact h2) (by rw [castL_len]; exact h3) (by rw [castL_len]; exact h4) (by rw [h5, hcs])
  rw [castL_len, castL_len] at this
  exact this
 obtain ⟨a1, ha1⟩ : ∃ a1 : Bool, a1 = true ↔ ∀ x ∈ dS, x ∈ my := ⟨@decide _ (Classical.propDecidable _), @decide_eq_true_iff _ (Classical.propDecidable _)⟩
 obtain ⟨a2, ha2⟩ : ∃ a2 : Bool, a2 = true ↔ ∀ x ∈ du, x ∈ dS := ⟨@decide _ (Classical.propDecidable _), @decide_eq_true_iff _ (Classical.propDecidable _)⟩
 repeat (first|refine lVa rfl rfl (by first|exact pEv rfl|fail) ?_|refine cRg ?_|refine cSq ?_|fail)
 refine r_call rfl rfl rfl (fun W hW => hall X (some ⟨mb, 0, none⟩) xc mc dS my a1 W (hX W hW) (by rw [<- castL_rows]; exact at_flI hW (by repeat constructor)) hxl (by omega) ha1) ?_
 cases a1 with
 | false =>
  have hn2 := hfal _ (fun h => (hVT.1 h).1) (fun h => by cases ha1.2 h)
  repeat (first|refine lVa rfl rfl (by first|exact pEv rfl|fail) ?_|refine lNi ?_|refine cRg ?_|refine cSq ?_|refine xTh ?_|refine l_skip rfl rfl ?_|refine c_true rfl ?_|refine c_ret ?_|refine xTr ?_|fail)
  exact x_ret rfl rfl (by repeat constructor) rfl (fun W hW => ⟨by rw [hn2], hW.below⟩)
 | true =>
 have ha1 := ha1.1 rfl
 repeat (first|refine lVa rfl rfl (by first|exact pEv rfl|fail) ?_|fail)
 refine r_call rfl rfl rfl (fun W hW => hall (some ⟨db, 0, none⟩) X dc xc du dS a2 W (by rw [<- castL_rows]; exact at_flI hW (by repeat constructor)) (hX W hW) (by omega) hxl ha2) ?_
 cases a2 with
 | false =>
  have hn2 := hfal _ (fun h => (hVT.1 h).2.1) (fun h => by cases ha2.2 h)
  repeat (first|refine lVa rfl rfl (by first|exact pEv rfl|fail) ?_|refine lNi ?_|refine cRg ?_|refine cSq ?_|refine xTh ?_|refine c_true rfl ?_|refine c_ret ?_|refine xTr ?_|fail)
  exact x_ret rfl rfl (by repeat constructor) rfl (fun W hW => ⟨by rw [hn2], hW.below⟩)
 | true =>
 have ha2 := ha2.1 rfl
 clear hall
 obtain ⟨l1, hl1⟩ : ∃ l1, put l dS ((k : Int) + 1) = l1 := ⟨_, rfl⟩
 have hl1n : l1.length = n := by rw [<- hl1, put_len]; exact hln
 repeat (first|refine lVa rfl rfl (by first|exact pEv rfl|fail) ?_|refine lNi ?_|refine cRg ?_|refine cSq ?_|refine xTh ?_|refine c_false rfl ?_|refine cSk ?_|fail)
 refine r_call1 (ι := NwR l1) (v := fun s => .slice (some ⟨s.1.1, 0, none⟩) l1.length s.1.2.1) (bk := fun s => s.1.1) (o := fun s => .cells ⟨flI l1 ++ s.1.2.2⟩ 3 (0, 0)) rfl rfl rfl
  (fun W hW => by
   have := put66_calls K ck l X xc dS k W (hK.sat hW) (hX W hW) (by omega) (fun e => by rw [e] at hln; exact hn0 hln.symm) (fun q hq => by rw [hln]; exact hmyn q (ha1 q hq)) (by omega) (by omega)
   rw [hl1] at this
   exact this.mono fun e W' h => h.r) (fun s => ?_)
 obtain ⟨⟨bp, cp, rp⟩, hgp⟩ := s
 simp only at hgp ⊢
 repeat (first|refine lVa rfl rfl (by first|exact pEv rfl|exact vLd rfl (by repeat constructor) rfl (by rfl)|fail) ?_|refine lNi ?_|refine cRg ?_|refine cSq ?_|refine xTh ?_|fail)
 refine r_call1 (ι := NwR (frI C l1 n)) (v := fun s => .slice (some ⟨s.1.1, 0, none⟩) (frI C l1 n).length s.1.2.1) (bk := fun s => s.1.1) (o := fun s => .cells ⟨flI (frI C l1 n) ++ s.1.2.2⟩ 3 (0, 0)) rfl rfl rfl
  (fun W hW => (free68_calls n A cap L B cab C (some ⟨bp, 0, none⟩) cp l1 W (hA.sat hW) (at_flI hW (by repeat constructor)) hl1n (by omega) hc).mono fun e W' h => h.r) (fun s => ?_)
 obtain ⟨⟨bf, cf, rf⟩, hgf⟩ := s
 simp only at hgf ⊢
 have hFr : frI C l1 n = castL (free G l1) := by rw [<- hGe]; rfl
 obtain ⟨fr, hfr⟩ : ∃ fr, free G l1 = fr := ⟨_, rfl⟩
 rw [hFr, hfr, castL_len] at hgf ⊢
 have hfl : fr.length <= 6 := by rw [<- hfr]; exact Nat.le_trans filt_len (by rw [<- hGe]; exact hn6)
 have hfn : fr.Nodup := by rw [<- hfr]; exact (free_inc G l1).imp fun h => Nat.ne_of_lt h
 have hch : ∀ Sx, Sx ∈ setsF [] fr ↔ List.Sublist Sx fr := fun Sx => by rw [<- hfr]; exact sets_free
 obtain ⟨sf, hsf⟩ : ∃ sf, setsF [] fr = sf := ⟨_, rfl⟩
 have hsfl : sf.length <= 64 := by
  rw [<- hsf]
  have h1 := setsF_len (all := []) _ fr rfl
  have h3 := Nat.pow_le_pow_right (n := 2) (by decide) hfl
  omega
 refine r_callG (ι := { i : XI // i.OK sf }) (v := fun i => .slice (some ⟨i.1.b, 0, none⟩) sf.length i.1.c) (Φ := fun i W W' => W.heap.size <= i.1.b /\ W'.heap[i.1.b]? = some (.cells ⟨srF i.1.rs ++ i.1.r⟩ 37 (0, 0)) /\ ∀ r ∈ i.1.rs, W.heap.size <= r.a /\ r.a < W'.heap.size /\ At W' (some ⟨r.a, 0, none⟩) 1 (r.S.map nE)) rfl rfl rfl (fun W hW => ?_) ?_
 ·have := sets61_calls (some ⟨bf, 0, none⟩) none cf 0 fr [] W (by rw [<- castL_rows]; exact at_flI hW (by repeat constructor)) (fun i cs hi => by simp at hi) hfl (by decide)
  rw [hsf] at this
  exact this
 rintro ⟨⟨rs, sb, sc, sr⟩, hrs, hsg⟩ W0 W1 hGn ⟨hsb, hsc, hsr⟩
 simp only at hrs hsg hsb hsc hsr ⊢
 obtain ⟨hHd, hRw⟩ := sets_gnd (i := ⟨rs, sb, sc, sr⟩) hGn hsb hsc hsr
 have hS1 : Same (base w) w W1 := hGn.z.same
 have hD1 : ∀ q, base w q -> allBut W1 [bf, bp, db, mb, b5] q := fun q hq => hGn.dom hq
 simp only [List.map_cons, List.map_nil] at hHd hRw ⊢
 generalize allBut W1 [bf, bp, db, mb, b5] = D1 at *
 have hrl2 : rs.length = sf.length := by rw [<- hrs, List.length_map]
 have hlow : ∀ (mem : List (Nat × Obj)) (W : World), SatW W1 D1 noJ mem W -> Below w.heap.size w W := fun mem W hW => low hS1 hD1 hW
 rw [hl1, hfr] at hVT
 clear hm1 hm2 hgf hX hmay hcase
 repeat (first|refine lVa rfl rfl (by first|exact pEv rfl|fail) ?_|refine lNi ?_|refine cRg ?_|refine cSq ?_|refine xTh ?_|refine cBl ?_|fail)
 refine c_loop (ι := Nat) (fun j => j <= sf.length /\ ∀ Sx ∈ sf.take j, spP G (tabW rows) f (k + 1) (put l1 Sx (k + 1)) = true) (fun j => [(1, .int .i64 T), (2, .int .i64 k), (3, .slice S rows.length cs), (5, .pointer (some ⟨b5, 0, none⟩)), (15, .slice (some ⟨bp, 0, none⟩) l1.length cp), (16, .slice (some ⟨sb, 0, none⟩) sf.length sc), (17, .int .i64 j)])
  (fun _ => [(bp, .cells ⟨flI l1 ++ rp⟩ 3 (0, 0)), (b5, .cells ⟨[.int .i64 n, .slice A L.length cap, .slice B C.length cab]⟩ 24 (0, 0))]) (fun j => sf.length - j) 0 ⟨Nat.zero_le _, fun Sx h => by cases h⟩ (by repeat (first|exact .nil|refine .cons rfl (by first|rfl|(congr 1; done)|exact congrArg _ (by omega)|(simp; done)) ?_)) (by repeat (first|exact .nil|refine .keep (by first|rfl|assumption) ?_|refine .drop ?_|exact MSub.refl _)) ?_
 rintro j ⟨hj, hF⟩
 by_cases hjt : j < sf.length
 rotate_left
 ·have hje : j = sf.length := by omega
  rw [hje, List.take_length] at hF
  have hyes := hVT.2 ⟨ha1, ha2, fun D hD => hF D (by rw [<- hsf]; exact (hch D).2 hD)⟩
  repeat (first|refine lVa rfl rfl (by first|exact pEv rfl|fail) ?_|refine lNi ?_|refine cRg ?_|refine cSq ?_|refine xTh ?_|refine c_dec_f rfl (by first|omega|fail) ?_|refine c_ret ?_|refine c_exit ?_|refine xTe ?_|refine xBs ?_|fail)
  exact x_ret rfl rfl (by repeat constructor) rfl (fun W hW => ⟨by rw [hyes], hlow _ W hW⟩)
 obtain ⟨⟨Sx, a, cr⟩, hr⟩ : ∃ r, rs[j]? = some r := ⟨_, List.getElem?_eq_getElem (by omega)⟩
 have hSj : sf[j]? = some Sx := by rw [<- hrs, List.getElem?_map, hr]; rfl
 have hSm : Sx ∈ sf := List.mem_of_getElem? hSj
 have eH := hHd j _ hr
 have hrA := hRw _ (List.mem_of_getElem? hr)
 simp only at eH hrA
 obtain ⟨hSl, hSin⟩ := setsF_row hfn (by rw [hsf]; exact hSm)
 have hSn : ∀ q ∈ Sx, q < l1.length := fun q hq => by
  have h1 := hSin q hq
  rw [<- hfr] at h1
  have h2 := (free_mem.1 h1).1
  rw [<- hGe] at h2
  rw [hl1n]; exact h2
 obtain ⟨l2, hl2⟩ : ∃ l2, put l1 Sx ((k : Int) + 1) = l2 := ⟨_, rfl⟩
 have hl2n : l2.length = n := by rw [<- hl2, put_len]; exact hl1n
 have hl2b : ∀ q, 0 <= kn l2 q /\ kn l2 q <= (k : Int) + 1 := by rw [<- hl2, <- hl1]; exact kn_put_bd2 (kn_put_bd hbd)
 obtain ⟨v, hv⟩ : ∃ v, spP G (tabW rows) f (k + 1) l2 = v := ⟨_, rfl⟩
 have hno : v = false -> spP G (tabW rows) (f + 1) k l = false := fun h => hfal _ (fun g => (hVT.1 g).2.2 Sx ((hch Sx).1 (by rw [hsf]; exact hSm))) (fun g => by rw [hl2, hv, h] at g; cases g)
 clear hfal
 repeat ((fail_if_success refine c_probe (id := 14) ?_); (fail_if_success refine c_probe1 (id := 14) ?_); first|refine lVa rfl rfl (by first|exact pEv rfl|fail) ?_|refine lNi ?_|refine cRg ?_|refine cSq ?_|refine xTh ?_|refine c_dec_t rfl (by first|omega|fail) ?_|refine cBl ?_|refine cSk ?_|fail)
 refine cSq ?_
 refine c_new 0 1 [(11, .calA 0 1 l2.length (flI l2) 3), (12, .cal (.bool v))] [(11, [0]), (12, [])] [(12, 0)] rfl (by decide +kernel) rfl ?_
 repeat (first|refine e_val rfl rfl rfl rfl (by first|exact v_add rfl rfl (by omega) (by omega)|exact pEv rfl|exact vLd rfl (by repeat constructor) rfl (by rfl)|exact vL0 rfl (by assumption) rfl (by rfl)|exact v_index rfl rfl rfl rfl (by omega) (by omega) (by with_reducible first|exact idx1 _|fail)|fail) ?_|fail)
 refine e_callA rfl rfl rfl rfl rfl (by decide) flI_len (by unfold maxLen; omega) rfl (fun W hW => ?_) (fun b1 c1 r1 hgr => ?_)
 ·have := put66_calls (some ⟨bp, 0, none⟩) cp l1 (some ⟨a, 0, none⟩) cr Sx k W (at_flI hW (by repeat constructor)) (hrA.at hW) (by omega) (fun e => by rw [e] at hl1n; exact hn0 hl1n.symm) hSn (by omega) (by omega)
  rw [hl2] at this
  exact this
 skip
 refine e_call rfl rfl rfl rfl rfl (fun W hW => ?_) ?_
 ·have := ih (some ⟨b1, 0, none⟩) c1 l2 W (hA.later (hlow _ W hW)) (hS.later (hlow _ W hW)) (at_flI hW (by repeat constructor)) hl2n hl2b
  rw [hv] at this
  exact this
 cases v with
 | false =>
  have hn2 := hno rfl
  repeat (first|refine lVa rfl rfl (by first|exact pEv rfl|fail) ?_|refine lNi ?_|refine cRg ?_|refine cSq ?_|refine xTh ?_|refine c_true rfl ?_|refine c_ret ?_|refine xTr ?_|refine xBr ?_|refine e_val rfl rfl rfl rfl (by first|exact pEv rfl|fail) ?_|refine e_nil rfl ?_|fail)
  exact x_ret rfl rfl (by repeat constructor) rfl (fun W hW => ⟨by rw [hn2], hlow _ W hW⟩)
 | true =>
  repeat (first|refine lVa rfl rfl (by first|exact v_add rfl rfl (by omega) (by omega)|exact pEv rfl|fail) ?_|refine lNi ?_|refine cRg ?_|refine cSq ?_|refine xTh ?_|refine c_false rfl ?_|refine cSk ?_|refine x_block ?_|refine e_val rfl rfl rfl rfl (by first|exact pEv rfl|fail) ?_|refine e_nil rfl ?_|fail)
  refine x_back (j + 1) ⟨hjt, fun Sy hSy => ?_⟩ (by omega) (by repeat (first|exact .nil|refine .cons rfl (by first|rfl|(congr 1; done)|exact congrArg _ (by omega)|(simp; done)) ?_)) (by repeat (first|exact .nil|refine .keep (by first|rfl|assumption) ?_|refine .drop ?_|exact MSub.refl _))
  rw [List.take_add_one, hSj] at hSy
  rcases List.mem_append.1 hSy with h | h
  ·exact hF Sy h
  ·rw [List.mem_singleton.1 h, hl2]
   exact hv
theorem oth34_calls (n : Nat) (A : Option Addr) (cap : Nat) (L : List Lk) (B : Option Addr) (cab : Nat) (C : List Lk) (T : Nat) (S : Option Addr) (cs : Nat) (rows : List DW) (hG : RfG n T L C) (hrl : rows.length <= 1000000) (hok : okS n T rows) (hdl : ∀ r ∈ rows, r.d.length <= 1000) :
  ∀ (f k : Nat) (K : Option Addr) (ck : Nat) (l : List Int) (w : World), k + f = T + 1 -> (⟨n, A, cap, L, B, cab, C⟩ : R23.Un).In w -> StrIn w S rows -> At w K 1 (l.map inE) -> l.length = n -> (∀ q, 0 <= kn l q /\ kn l q <= k) ->
   Calls Tryz.prog 34 ⟨[.agg ⟨[.int .i64 n, .slice A L.length cap, .slice B C.length cab]⟩, .int .i64 T, .int .i64 k, .slice S rows.length cs, .slice K l.length ck]⟩ w fun e w' => e = .returned (.bool (spP ⟨n, T, L, C⟩ (tabW rows) f k l)) /\ Below w.heap.size w w' := by
 intro f
 induction f with
 | zero =>
  intro k K ck l w hkf hA hS hK hln hbd
  have hk : k = T + 1 := by omega
  subst hk
  exact oth34_end n A cap L B cab C T S cs rows.length (tabW rows) hG K ck l w hA hK hln (fun q => by have := hbd q; omega)
 | succ f ih =>
  intro k K ck l w hkf hA hS hK hln hbd
  exact oth34_step n A cap L B cab C T S cs rows hG hrl hok hdl f k (by omega) (fun K ck l w h1 h2 h3 h4 h5 => by
   have := ih (k + 1) K ck l w (by omega) h1 h2 h3 h4 (fun q => by have := h5 q; omega)
   rwa [Int.natCast_succ] at this) K ck l w hA hS hK hln hbd
end R24
end Go.Proofs
