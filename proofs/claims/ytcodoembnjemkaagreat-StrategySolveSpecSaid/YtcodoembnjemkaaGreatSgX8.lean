/- Games on networks: whether the desk can win, as the specification asks it. -/
import Derived.Test.YtcodoembnjemkaaGreatSgX7
set_option maxRecDepth 100000
set_option maxHeartbeats 400000000
set_option linter.unusedSectionVars false
set_option linter.unusedVariables false
set_option linter.unusedSimpArgs false
namespace Go
namespace Kin
section
variable {P : Program} {N : Nat} {c : Cx} {Q : Exit -> Act -> World -> Prop} {env : List (Nat × Value)} {mem mem2 : List (Nat × Obj)}
/-- back to the ground ahead of a call -/
theorem Gnd.back {W W' W2 : World} (h : Gnd c mem W W') (hJ : c.J = noJ) (h2 : SatW W' (allBut W' (mem.map (·.1))) noJ mem2 W2) (hm : ∀ p ∈ mem2, p.1 ∈ mem.map (·.1)) : SatW c.w0 c.D noJ mem2 W2 :=
 ⟨h.z.same.trans (h2.same.mono fun _ hk => h.dom hk), h.z.dom, h2.nodup, fun p hp => ⟨fun hd => by
  obtain ⟨q, hq, e⟩ := List.mem_map.1 (hm p hp)
  exact (h.z.own q hq).1 (e ▸ hd), (h2.own p hp).2⟩, closed_noJ, trivial⟩
theorem x_drop2 {e : Exit} {mem' : List (Nat × Obj)} (hs : MSub mem mem') (k : RunX N c Q e env mem') : RunX N c Q e env mem := .mk fun a W ha hm => k.run a W ha (hm.mono hs.sub)
theorem x_gnd {F : Fence} {n : Nat} {ds : List Deferred} {w0 W' : World} {D D' : Nat -> Prop} {e : Exit} (hb : ∀ W2, SatW W' D' noJ mem W2 -> SatW w0 D noJ mem W2) (k : RunX N ⟨F, n, ds, w0, D, noJ⟩ Q e env mem) : RunX N ⟨F, n, ds, W', D', noJ⟩ Q e env mem := .mk fun a W ha hm => k.run a W ha (hb W hm)
end
end Kin
end Go
namespace Go.Proofs
open Go.RowKit Go.Kin Go.Kin.St Go.Kin.Ct Go.Kin.Sg
namespace R24
noncomputable def vP (G : Gm) (f k : Nat) (l : List Int) : Bool := @decide (V G f k l) (Classical.propDecidable _)
theorem vP_iff {G : Gm} {f k : Nat} {l : List Int} : vP G f k l = true ↔ V G f k l := @decide_eq_true_iff _ (Classical.propDecidable _)
/-- one of the desk's sets wins -/
noncomputable def oneV (G : Gm) (f k : Nat) (l1 : List Int) (sf : List (List Nat)) : Bool := sf.any fun D => vP G f (k + 1) (put l1 D (k + 1))
theorem oneV_all {G : Gm} {f k : Nat} {l1 : List Int} : oneV G f k l1 (setsF [] (free G l1)) = true ↔ ∃ D, List.Sublist D (free G l1) /\ V G f (k + 1) (put l1 D (k + 1)) := by
 unfold oneV
 rw [List.any_eq_true]
 exact ⟨fun ⟨D, h1, h2⟩ => ⟨D, sets_free.1 h1, vP_iff.1 h2⟩, fun ⟨D, h1, h2⟩ => ⟨D, sets_free.2 h1, vP_iff.2 h2⟩⟩
theorem oneV_no {G : Gm} {f k : Nat} {l1 : List Int} {sf : List (List Nat)} {j : Nat} {Sx : List Nat} (h : oneV G f k l1 (sf.take j) = false) (hs : sf[j]? = some Sx) : oneV G f k l1 (sf.take (j + 1)) = vP G f (k + 1) (put l1 Sx (k + 1)) := by
 unfold oneV at h ⊢
 rw [List.take_add_one, hs, List.any_append, h]
 simp
theorem oneV_yes {G : Gm} {f k : Nat} {l1 : List Int} {sf : List (List Nat)} {j : Nat} (h : oneV G f k l1 (sf.take j) = true) : oneV G f k l1 sf = true := by
 unfold oneV at h ⊢
 rw [List.any_eq_true] at h ⊢
 obtain ⟨D, h1, h2⟩ := h
 exact ⟨D, List.mem_of_mem_take h1, h2⟩
theorem wins40_end (n : Nat) (A : Option Addr) (cap : Nat) (L : List Lk) (B : Option Addr) (cab : Nat) (C : List Lk) (T : Nat) (hG : RfG n T L C) (K : Option Addr) (ck : Nat) (l : List Int) (w : World) (hA : (⟨n, A, cap, L, B, cab, C⟩ : R23.Un).In w) (hK : At w K 1 (l.map inE)) (hln : l.length = n) (hbd : ∀ q, 0 <= kn l q /\ kn l q <= (T : Int) + 1) :
  Calls Tryz.prog 40 ⟨[.agg ⟨[.int .i64 n, .slice A L.length cap, .slice B C.length cab]⟩, .int .i64 T, .int .i64 ((T : Int) + 1), .slice K l.length ck]⟩ w fun e w' => e = .returned (.bool (vP ⟨n, T, L, C⟩ 0 (T + 1) l)) /\ Below w.heap.size w w' := by
 have hT := hG.T
 have hb : ∀ x ∈ l, 0 <= x /\ x <= 1000 := fun x hx => by
  obtain ⟨q, hq⟩ := List.getElem?_of_mem hx
  have := hbd q
  rw [kn_get hq] at this
  omega
 have hk : ∀ (mem : List (Nat × Obj)) (W : World), SatW w (base w) noJ mem W -> Calls Tryz.prog 59 ⟨[.agg ⟨[.int .i64 n, .slice A L.length cap, .slice B C.length cab]⟩, .slice K l.length ck]⟩ W fun e w' => e = .returned (.bool (vP ⟨n, T, L, C⟩ 0 (T + 1) l)) /\ Below W.heap.size W w' := fun mem W hW =>
  kept59_calls n A cap L B cab C T K ck l W (hA.sat hW) (hK.sat hW) hln (by have := hG.n6; omega) hG.l hb hG.ck
 refine fEn Tryz.func40 rfl Tryz.ntmps40 rfl rfl (sWn w) ?_
 repeat (first|refine lVa rfl rfl (by first|exact pEv rfl|exact vLd rfl (by repeat constructor) rfl (by rfl)|fail) ?_|refine lNi ?_|refine cRg ?_|refine cSq ?_|refine xTh ?_|refine r_box rfl rfl rfl rfl (fun _ => ?_)|refine c_dec_t rfl (by first|omega|fail) ?_|fail)
 refine r_call rfl rfl rfl (fun W hW => hk _ W hW) ?_
 repeat (first|refine lVa rfl rfl (by first|exact pEv rfl|fail) ?_|refine lNi ?_|refine xTh ?_|refine c_ret ?_|refine xTr ?_|fail)
 exact x_ret rfl rfl (by repeat constructor) rfl (fun W hW => ⟨rfl, hW.below⟩)
theorem wins40_step (n : Nat) (A : Option Addr) (cap : Nat) (L : List Lk) (B : Option Addr) (cab : Nat) (C : List Lk) (T : Nat) (hG : RfG n T L C)
  (f k : Nat) (hkf : k + f = T)
  (ih : ∀ (K : Option Addr) (ck : Nat) (l : List Int) (w : World), (⟨n, A, cap, L, B, cab, C⟩ : R23.Un).In w -> At w K 1 (l.map inE) -> l.length = n -> (∀ q, 0 <= kn l q /\ kn l q <= (k : Int) + 1) -> Calls Tryz.prog 40 ⟨[.agg ⟨[.int .i64 n, .slice A L.length cap, .slice B C.length cab]⟩, .int .i64 T, .int .i64 ((k : Int) + 1), .slice K l.length ck]⟩ w fun e w' => e = .returned (.bool (vP ⟨n, T, L, C⟩ f (k + 1) l)) /\ Below w.heap.size w w')
  (K : Option Addr) (ck : Nat) (l : List Int) (w : World) (hA : (⟨n, A, cap, L, B, cab, C⟩ : R23.Un).In w) (hK : At w K 1 (l.map inE)) (hln : l.length = n) (hbd : ∀ q, 0 <= kn l q /\ kn l q <= k) :
  Calls Tryz.prog 40 ⟨[.agg ⟨[.int .i64 n, .slice A L.length cap, .slice B C.length cab]⟩, .int .i64 T, .int .i64 k, .slice K l.length ck]⟩ w fun e w' => e = .returned (.bool (vP ⟨n, T, L, C⟩ (f + 1) k l)) /\ Below w.heap.size w w' := by
 have hn0 := hG.n0
 have hn6 := hG.n6
 have hT := hG.T
 have hc := hG.c
 obtain ⟨G, hGe⟩ : ∃ G : Gm, (⟨n, T, L, C⟩ : Gm) = G := ⟨_, rfl⟩
 have hmay := fun (mem : List (Nat × Obj)) (W : World) (hW : SatW w (base w) noJ mem W) => may60_calls n A cap L B cab C T k K ck l W (hA.sat hW) (hK.sat hW) hln (by omega) (by omega) hc hG.C hbd
 rw [hGe] at ih hmay ⊢
 obtain ⟨my, hmy⟩ : ∃ my, may G k l = my := ⟨_, rfl⟩
 obtain ⟨du, hdu⟩ : ∃ du, Sg.due G k l = du := ⟨_, rfl⟩
 rw [hmy, hdu] at hmay
 have hml : my.length <= 6 := by rw [<- hmy]; exact Nat.le_trans filt_len (by rw [<- hGe]; exact hn6)
 have hdl2 : du.length <= 6 := by rw [<- hdu]; exact Nat.le_trans filt_len (by rw [<- hGe]; exact hn6)
 have hmn : my.Nodup := by rw [<- hmy]; exact (may_inc G k l).imp fun h => Nat.ne_of_lt h
 have hch : ∀ Sx, Sx ∈ setsF du my ↔ Ch G k l Sx := fun Sx => by rw [<- hmy, <- hdu]; exact sets_ch
 obtain ⟨sf, hsf⟩ : ∃ sf, setsF du my = sf := ⟨_, rfl⟩
 have hsfl : sf.length <= 64 := by
  rw [<- hsf]
  have h1 := setsF_len (all := du) _ my rfl
  have h3 := Nat.pow_le_pow_right (n := 2) (by decide) hml
  omega
 refine fEn Tryz.func40 rfl Tryz.ntmps40 rfl rfl (sWn w) ?_
 repeat (first|refine lVa rfl rfl (by first|exact pEv rfl|exact vLd rfl (by repeat constructor) rfl (by rfl)|fail) ?_|refine lNi ?_|refine cRg ?_|refine cSq ?_|refine xTh ?_|refine r_box rfl rfl rfl rfl (fun _ => ?_)|refine c_dec_f rfl (by first|omega|fail) ?_|refine cSk ?_|fail)
 refine r_call2 (ι := { i : My // i.OK my du }) (v := fun i => .tuple ⟨[.slice (some ⟨i.1.b, 0, none⟩) my.length i.1.c, .slice (some ⟨i.1.b2, 0, none⟩) du.length i.1.c2]⟩) (bk := fun i => i.1.b) (bk2 := fun i => i.1.b2) (o := fun i => .cells ⟨flI (castL my) ++ i.1.r⟩ 3 (0, 0)) (o2 := fun i => .cells ⟨flI (castL du) ++ i.1.r2⟩ 3 (0, 0)) rfl rfl rfl (fun W hW => hmay _ W hW) (fun s => ?_)
 obtain ⟨⟨mb, mc, mr, db, dc, dr⟩, hm1, hm2⟩ := s
 simp only
 repeat (first|refine lVa rfl rfl (by first|exact pEv rfl|fail) ?_|refine lNi ?_|refine cRg ?_|refine cSq ?_|refine xTh ?_|fail)
 rename_i b5
 refine r_callG (ι := { i : XI // i.OK sf }) (v := fun i => .slice (some ⟨i.1.b, 0, none⟩) sf.length i.1.c) (Φ := fun i W W' => W.heap.size <= i.1.b /\ W'.heap[i.1.b]? = some (.cells ⟨srF i.1.rs ++ i.1.r⟩ 37 (0, 0)) /\ ∀ r ∈ i.1.rs, W.heap.size <= r.a /\ r.a < W'.heap.size /\ At W' (some ⟨r.a, 0, none⟩) 1 (r.S.map nE)) rfl rfl rfl (fun W hW => ?_) ?_
 ·have := sets61_calls (some ⟨mb, 0, none⟩) (some ⟨db, 0, none⟩) mc dc my du W (by rw [<- castL_rows]; exact at_flI hW (by repeat constructor)) (by rw [<- castL_rows]; exact at_flI hW (by repeat constructor)) hml (by omega)
  rw [hsf] at this
  exact this
 rintro ⟨⟨rs, sb, sc, sr⟩, hrs, hsg⟩ W0 W1 hGn ⟨hsb, hsc, hsr⟩
 simp only at hrs hsg hsb hsc hsr ⊢
 obtain ⟨hHd, hRw⟩ := sets_gnd (i := ⟨rs, sb, sc, sr⟩) hGn hsb hsc hsr
 have hS1 : Same (base w) w W1 := hGn.z.same
 have hD1 : ∀ q, base w q -> allBut W1 [db, mb, b5] q := fun q hq => hGn.dom hq
 simp only [List.map_cons, List.map_nil] at hHd hRw ⊢
 generalize allBut W1 [db, mb, b5] = D1 at *
 have hrl2 : rs.length = sf.length := by rw [<- hrs, List.length_map]
 have hlow : ∀ (mem : List (Nat × Obj)) (W : World), SatW W1 D1 noJ mem W -> Below w.heap.size w W := fun mem W hW => low hS1 hD1 hW
 have hVT : vP G (f + 1) k l = true ↔ ∀ Sx ∈ sf, oneV G f k (put l Sx (k + 1)) (setsF [] (free G (put l Sx (k + 1)))) = true := by
  rw [vP_iff]
  constructor
  ·intro h Sx hSx
   rw [<- hsf] at hSx
   exact oneV_all.2 (h Sx ((hch Sx).1 hSx))
  ·intro h Sx hSx
   exact oneV_all.1 (h Sx (by rw [<- hsf]; exact (hch Sx).2 hSx))
 clear hm1 hm2 hmay
 repeat (first|refine lVa rfl rfl (by first|exact pEv rfl|fail) ?_|refine lNi ?_|refine cRg ?_|refine cSq ?_|refine xTh ?_|refine cBl ?_|fail)
 refine c_loop (ι := Nat) (fun j => j <= sf.length /\ ∀ Sx ∈ sf.take j, oneV G f k (put l Sx (k + 1)) (setsF [] (free G (put l Sx (k + 1)))) = true) (fun j => [(1, .int .i64 T), (2, .int .i64 k), (3, .slice K l.length ck), (4, .pointer (some ⟨b5, 0, none⟩)), (11, .slice (some ⟨sb, 0, none⟩) sf.length sc), (12, .int .i64 j)])
  (fun _ => [(b5, .cells ⟨[.int .i64 n, .slice A L.length cap, .slice B C.length cab]⟩ 24 (0, 0))]) (fun j => sf.length - j) 0 ⟨Nat.zero_le _, fun Sx h => by cases h⟩ (by repeat (first|exact .nil|refine .cons rfl (by first|rfl|(congr 1; done)|exact congrArg _ (by omega)|(simp; done)) ?_)) (by repeat (first|exact .nil|refine .keep (by first|rfl|assumption) ?_|refine .drop ?_|exact MSub.refl _)) ?_
 rintro j ⟨hj, hF⟩
 by_cases hjt : j < sf.length
 rotate_left
 ·have hje : j = sf.length := by omega
  rw [hje, List.take_length] at hF
  have hyes := hVT.2 hF
  repeat (first|refine lVa rfl rfl (by first|exact pEv rfl|fail) ?_|refine lNi ?_|refine cRg ?_|refine cSq ?_|refine xTh ?_|refine c_dec_f rfl (by first|omega|fail) ?_|refine c_ret ?_|refine c_exit ?_|refine xTe ?_|refine xBs ?_|fail)
  exact x_ret rfl rfl (by repeat constructor) rfl (fun W hW => ⟨by rw [hyes], hlow _ W hW⟩)
 obtain ⟨⟨Sx, a, cr⟩, hr⟩ : ∃ r, rs[j]? = some r := ⟨_, List.getElem?_eq_getElem (by omega)⟩
 have hSj : sf[j]? = some Sx := by rw [<- hrs, List.getElem?_map, hr]; rfl
 have hSm : Sx ∈ sf := List.mem_of_getElem? hSj
 have eH := hHd j _ hr
 have hrA := hRw _ (List.mem_of_getElem? hr)
 simp only at eH hrA
 obtain ⟨hSl, hSin⟩ := setsF_row hmn (by rw [hsf]; exact hSm)
 have hSn : ∀ q ∈ Sx, q < l.length := fun q hq => by
  have h1 := hSin q hq
  rw [<- hmy] at h1
  have h2 := may_lt h1
  rw [<- hGe] at h2
  rw [hln]; exact h2
 obtain ⟨l1, hl1⟩ : ∃ l1, put l Sx ((k : Int) + 1) = l1 := ⟨_, rfl⟩
 have hl1n : l1.length = n := by rw [<- hl1, put_len]; exact hln
 repeat (first|refine lVa rfl rfl (by first|exact pEv rfl|exact vL0 rfl (by assumption) rfl (by rfl)|exact v_index rfl rfl rfl rfl (by omega) (by omega) (by with_reducible first|exact idx1 _|fail)|fail) ?_|refine lNi ?_|refine cRg ?_|refine cSq ?_|refine xTh ?_|refine c_dec_t rfl (by first|omega|fail) ?_|refine cBl ?_|refine cSk ?_|fail)
 refine r_call1 (ι := NwR l1) (v := fun s => .slice (some ⟨s.1.1, 0, none⟩) l1.length s.1.2.1) (bk := fun s => s.1.1) (o := fun s => .cells ⟨flI l1 ++ s.1.2.2⟩ 3 (0, 0)) rfl rfl rfl
  (fun W hW => by
   have := put66_calls K ck l (some ⟨a, 0, none⟩) cr Sx k W (hK.later (hlow _ W hW)) (hrA.at hW) (by omega) (fun e => by rw [e] at hln; exact hn0 hln.symm) hSn (by omega) (by omega)
   rw [hl1] at this
   exact this.mono fun e W' h => h.r) (fun s => ?_)
 obtain ⟨⟨bp, cp, rp⟩, hgp⟩ := s
 simp only at hgp ⊢
 repeat (first|refine lVa rfl rfl (by first|exact pEv rfl|exact vLd rfl (by repeat constructor) rfl (by rfl)|fail) ?_|refine lNi ?_|refine cRg ?_|refine cSq ?_|refine xTh ?_|fail)
 refine r_call1 (ι := NwR (frI C l1 n)) (v := fun s => .slice (some ⟨s.1.1, 0, none⟩) (frI C l1 n).length s.1.2.1) (bk := fun s => s.1.1) (o := fun s => .cells ⟨flI (frI C l1 n) ++ s.1.2.2⟩ 3 (0, 0)) rfl rfl rfl
  (fun W hW => (free68_calls n A cap L B cab C (some ⟨bp, 0, none⟩) cp l1 W (hA.later (hlow _ W hW)) (at_flI hW (by repeat constructor)) hl1n (by omega) hc).mono fun e W' h => h.r) (fun s => ?_)
 obtain ⟨⟨bf, cf, rf⟩, hgf⟩ := s
 simp only at hgf ⊢
 have hFr : frI C l1 n = castL (free G l1) := by rw [<- hGe]; rfl
 obtain ⟨fr, hfr⟩ : ∃ fr, free G l1 = fr := ⟨_, rfl⟩
 rw [hFr, hfr, castL_len] at hgf ⊢
 have hfl : fr.length <= 6 := by rw [<- hfr]; exact Nat.le_trans filt_len (by rw [<- hGe]; exact hn6)
 have hfn : fr.Nodup := by rw [<- hfr]; exact (free_inc G l1).imp fun h => Nat.ne_of_lt h
 obtain ⟨sg, hsg2⟩ : ∃ sg, setsF [] fr = sg := ⟨_, rfl⟩
 have hsgl : sg.length <= 64 := by
  rw [<- hsg2]
  have h1 := setsF_len (all := []) _ fr rfl
  have h3 := Nat.pow_le_pow_right (n := 2) (by decide) hfl
  omega
 refine r_callG (ι := { i : XI // i.OK sg }) (v := fun i => .slice (some ⟨i.1.b, 0, none⟩) sg.length i.1.c) (Φ := fun i W W' => W.heap.size <= i.1.b /\ W'.heap[i.1.b]? = some (.cells ⟨srF i.1.rs ++ i.1.r⟩ 37 (0, 0)) /\ ∀ r ∈ i.1.rs, W.heap.size <= r.a /\ r.a < W'.heap.size /\ At W' (some ⟨r.a, 0, none⟩) 1 (r.S.map nE)) rfl rfl rfl (fun W hW => ?_) ?_
 ·have := sets61_calls (some ⟨bf, 0, none⟩) none cf 0 fr [] W (by rw [<- castL_rows]; exact at_flI hW (by repeat constructor)) (fun i cs hi => by simp at hi) hfl (by decide)
  rw [hsg2] at this
  exact this
 rintro ⟨⟨rs', sb', sc', sr'⟩, hrs', hsg'⟩ W2 W3 hGn2 ⟨hsb', hsc', hsr'⟩
 simp only at hrs' hsg' hsb' hsc' hsr' ⊢
 obtain ⟨hHd', hRw'⟩ := sets_gnd (i := ⟨rs', sb', sc', sr'⟩) hGn2 hsb' hsc' hsr'
 have hS3 : Same (base w) w W3 := hS1.trans (hGn2.z.same.mono hD1)
 have hD3 : ∀ q, base w q -> allBut W3 [bf, bp, b5] q := fun q hq => hGn2.dom (hD1 q hq)
 have hback : ∀ (mem2 : List (Nat × Obj)) (W : World), (∀ p ∈ mem2, p.1 ∈ [bf, bp, b5]) -> SatW W3 (allBut W3 [bf, bp, b5]) noJ mem2 W -> SatW W1 D1 noJ mem2 W := fun mem2 W hp h => hGn2.back rfl h hp
 simp only [List.map_cons, List.map_nil] at hHd' hRw' ⊢
 generalize allBut W3 [bf, bp, b5] = D3 at *
 have hrl3 : rs'.length = sg.length := by rw [<- hrs', List.length_map]
 have hlow3 : ∀ (mem : List (Nat × Obj)) (W : World), SatW W3 D3 noJ mem W -> Below w.heap.size w W := fun mem W hW => low hS3 hD3 hW
 clear hgf
 have hno : oneV G f k l1 sg = false -> vP G (f + 1) k l = false := fun h => by
  cases hv : vP G (f + 1) k l with
  | false => rfl
  | true =>
   have := hVT.1 hv Sx hSm
   rw [hl1, hfr, hsg2, h] at this; cases this
 have hnx : oneV G f k l1 sg = true -> j + 1 <= sf.length /\ ∀ Sy ∈ sf.take (j + 1), oneV G f k (put l Sy (k + 1)) (setsF [] (free G (put l Sy (k + 1)))) = true := fun h => by
  refine ⟨hjt, fun Sy hSy => ?_⟩
  rw [List.take_add_one, hSj] at hSy
  rcases List.mem_append.1 hSy with g | g
  ·exact hF Sy g
  ·rw [List.mem_singleton.1 g, hl1, hfr, hsg2]; exact h
 have hbk : ∀ W, SatW W3 D3 noJ [(b5, .cells ⟨[.int .i64 n, .slice A L.length cap, .slice B C.length cab]⟩ 24 (0, 0))] W -> SatW W1 D1 noJ [(b5, .cells ⟨[.int .i64 n, .slice A L.length cap, .slice B C.length cab]⟩ 24 (0, 0))] W := fun W h => hback _ W (fun p hp => by rw [List.mem_singleton.1 hp]; exact List.mem_cons_of_mem _ (List.mem_cons_of_mem _ List.mem_cons_self)) h
 clear hback hF
 repeat (first|refine lVa rfl rfl (by first|exact pEv rfl|fail) ?_|refine lNi ?_|refine cRg ?_|refine cSq ?_|refine xTh ?_|refine cBl ?_|fail)
 refine c_loop (ι := Nat) (fun q => q <= sg.length) (fun q => [(1, .int .i64 T), (2, .int .i64 k), (3, .slice K l.length ck), (4, .pointer (some ⟨b5, 0, none⟩)), (11, .slice (some ⟨sb, 0, none⟩) sf.length sc), (12, .int .i64 j), (13, .slice (some ⟨bp, 0, none⟩) l1.length cp), (14, .slice (some ⟨sb', 0, none⟩) sg.length sc'), (15, .bool (oneV G f k l1 (sg.take q))), (16, .int .i64 q)])
  (fun _ => [(bp, .cells ⟨flI l1 ++ rp⟩ 3 (0, 0)), (b5, .cells ⟨[.int .i64 n, .slice A L.length cap, .slice B C.length cab]⟩ 24 (0, 0))]) (fun q => sg.length - q) 0 (Nat.zero_le _) (by repeat (first|exact .nil|refine .cons rfl (by first|rfl|(congr 1; done)|exact congrArg _ (by omega)|(simp; done)) ?_)) (by repeat (first|exact .nil|refine .keep (by first|rfl|assumption) ?_|refine .drop ?_|exact MSub.refl _)) ?_
 intro q hq
 cases hone : oneV G f k l1 (sg.take q) with
 | true =>
  have hyes := hnx (oneV_yes hone)
  by_cases hql : q < sg.length
  ·repeat (first|refine lVa rfl rfl (by first|exact v_add rfl rfl (by omega) (by omega)|exact pEv rfl|fail) ?_|refine lNi ?_|refine cRg ?_|refine cSq ?_|refine xTh ?_|refine c_false rfl ?_|refine cSk ?_|refine c_exit ?_|refine xTe ?_|refine x_block ?_|refine xBs ?_|refine l_dec_t rfl rfl rfl rfl rfl (by first|omega|fail) ?_|fail)
   refine x_drop2 (mem' := [(b5, .cells ⟨[.int .i64 n, .slice A L.length cap, .slice B C.length cab]⟩ 24 (0, 0))]) (by repeat (first|exact .nil|refine .keep (by first|rfl|assumption) ?_|refine .drop ?_|exact MSub.refl _)) ?_
   refine x_gnd hbk ?_
   exact x_back (j + 1) hyes (by omega) (by repeat (first|exact .nil|refine .cons rfl (by first|rfl|(congr 1; done)|exact congrArg _ (by omega)|(simp; done)) ?_)) (by repeat (first|exact .nil|refine .keep (by first|rfl|assumption) ?_|refine .drop ?_|exact MSub.refl _))
  ·repeat (first|refine lVa rfl rfl (by first|exact v_add rfl rfl (by omega) (by omega)|exact pEv rfl|fail) ?_|refine lNi ?_|refine cRg ?_|refine cSq ?_|refine xTh ?_|refine l_skip rfl rfl ?_|refine c_false rfl ?_|refine cSk ?_|refine c_exit ?_|refine xTe ?_|refine x_block ?_|refine xBs ?_|refine l_dec_f rfl rfl rfl rfl rfl (by first|omega|fail) ?_|fail)
   refine x_drop2 (mem' := [(b5, .cells ⟨[.int .i64 n, .slice A L.length cap, .slice B C.length cab]⟩ 24 (0, 0))]) (by repeat (first|exact .nil|refine .keep (by first|rfl|assumption) ?_|refine .drop ?_|exact MSub.refl _)) ?_
   refine x_gnd hbk ?_
   exact x_back (j + 1) hyes (by omega) (by repeat (first|exact .nil|refine .cons rfl (by first|rfl|(congr 1; done)|exact congrArg _ (by omega)|(simp; done)) ?_)) (by repeat (first|exact .nil|refine .keep (by first|rfl|assumption) ?_|refine .drop ?_|exact MSub.refl _))
 | false =>
  by_cases hql : q < sg.length
  rotate_left
  ·rw [List.take_of_length_le (by omega)] at hone
   have hn2 := hno hone
   repeat (first|refine lVa rfl rfl (by first|exact pEv rfl|fail) ?_|refine lNi ?_|refine cRg ?_|refine cSq ?_|refine xTh ?_|refine l_skip rfl rfl ?_|refine c_true rfl ?_|refine c_false rfl ?_|refine c_ret ?_|refine c_exit ?_|refine xTr ?_|refine xTe ?_|refine xBr ?_|refine xBs ?_|refine l_dec_f rfl rfl rfl rfl rfl (by first|omega|fail) ?_|fail)
   exact x_ret rfl rfl (by repeat constructor) rfl (fun W hW => ⟨by rw [hn2], hlow3 _ W hW⟩)
  obtain ⟨⟨Sz, a', cr'⟩, hr'⟩ : ∃ r, rs'[q]? = some r := ⟨_, List.getElem?_eq_getElem (by omega)⟩
  have hSq : sg[q]? = some Sz := by rw [<- hrs', List.getElem?_map, hr']; rfl
  have eH' := hHd' q _ hr'
  have hrA' := hRw' _ (List.mem_of_getElem? hr')
  simp only at eH' hrA'
  obtain ⟨hSl', hSin'⟩ := setsF_row hfn (by rw [hsg2]; exact List.mem_of_getElem? hSq)
  have hSn' : ∀ p ∈ Sz, p < l1.length := fun p hp => by
   have h1 := hSin' p hp
   rw [<- hfr] at h1
   have h2 := (free_mem.1 h1).1
   rw [<- hGe] at h2
   rw [hl1n]; exact h2
  obtain ⟨l2, hl2⟩ : ∃ l2, put l1 Sz ((k : Int) + 1) = l2 := ⟨_, rfl⟩
  have hl2n : l2.length = n := by rw [<- hl2, put_len]; exact hl1n
  have hl2b : ∀ q, 0 <= kn l2 q /\ kn l2 q <= (k : Int) + 1 := by rw [<- hl2, <- hl1]; exact kn_put_bd2 (kn_put_bd hbd)
  have hon2 := oneV_no hone hSq
  rw [hl2] at hon2
  obtain ⟨v, hv⟩ : ∃ v, vP G f (k + 1) l2 = v := ⟨_, rfl⟩
  rw [hv] at hon2
  repeat ((fail_if_success refine c_lone (id := 14) ?_); first|refine lVa rfl rfl (by first|exact pEv rfl|fail) ?_|refine lNi ?_|refine cRg ?_|refine cSq ?_|refine xTh ?_|refine c_true rfl ?_|refine cBl ?_|refine cSk ?_|refine l_dec_t rfl rfl rfl rfl rfl (by first|omega|fail) ?_|fail)
  refine c_new 0 1 [(10, .calA 0 1 l2.length (flI l2) 3), (11, .cal (.bool v))] [(10, [0]), (11, [])] [(11, 0)] rfl (by decide +kernel) rfl ?_
  repeat (first|refine e_val rfl rfl rfl rfl (by first|exact v_add rfl rfl (by omega) (by omega)|exact pEv rfl|exact vLd rfl (by repeat constructor) rfl (by rfl)|exact vL0 rfl (by assumption) rfl (by rfl)|exact v_index rfl rfl rfl rfl (by omega) (by omega) (by with_reducible first|exact idx1 _|fail)|fail) ?_|fail)
  refine e_callA rfl rfl rfl rfl rfl (by decide) flI_len (by unfold maxLen; omega) rfl (fun W hW => ?_) (fun b1 c1 r1 hgr => ?_)
  ·have := put66_calls (some ⟨bp, 0, none⟩) cp l1 (some ⟨a', 0, none⟩) cr' Sz k W (at_flI hW (by repeat constructor)) (hrA'.at hW) (by omega) (fun e => by rw [e] at hl1n; exact hn0 hl1n.symm) hSn' (by omega) (by omega)
   rw [hl2] at this
   exact this
  skip
  refine e_call rfl rfl rfl rfl rfl (fun W hW => ?_) ?_
  ·have := ih (some ⟨b1, 0, none⟩) c1 l2 W (hA.later (hlow3 _ W hW)) (at_flI hW (by repeat constructor)) hl2n hl2b
   rw [hv] at this
   exact this
  rw [<- hon2]
  repeat (first|refine lVa rfl rfl (by first|exact v_add rfl rfl (by omega) (by omega)|exact pEv rfl|fail) ?_|refine lNi ?_|refine cRg ?_|refine xTh ?_|refine x_block ?_|refine e_val rfl rfl rfl rfl (by first|exact pEv rfl|fail) ?_|refine e_nil rfl ?_|fail)
  exact x_back (q + 1) (by omega) (by omega) (by repeat (first|exact .nil|refine .cons rfl (by first|rfl|(congr 1; done)|exact congrArg _ (by omega)|(simp; done)) ?_)) (by repeat (first|exact .nil|refine .keep (by first|rfl|assumption) ?_|refine .drop ?_|exact MSub.refl _))
theorem wins40_calls (n : Nat) (A : Option Addr) (cap : Nat) (L : List Lk) (B : Option Addr) (cab : Nat) (C : List Lk) (T : Nat) (hG : RfG n T L C) :
  ∀ (f k : Nat) (K : Option Addr) (ck : Nat) (l : List Int) (w : World), k + f = T + 1 -> (⟨n, A, cap, L, B, cab, C⟩ : R23.Un).In w -> At w K 1 (l.map inE) -> l.length = n -> (∀ q, 0 <= kn l q /\ kn l q <= k) ->
   Calls Tryz.prog 40 ⟨[.agg ⟨[.int .i64 n, .slice A L.length cap, .slice B C.length cab]⟩, .int .i64 T, .int .i64 k, .slice K l.length ck]⟩ w fun e w' => e = .returned (.bool (vP ⟨n, T, L, C⟩ f k l)) /\ Below w.heap.size w w' := by
 intro f
 induction f with
 | zero =>
  intro k K ck l w hkf hA hK hln hbd
  have hk : k = T + 1 := by omega
  subst hk
  exact wins40_end n A cap L B cab C T hG K ck l w hA hK hln (fun q => by have := hbd q; omega)
 | succ f ih =>
  intro k K ck l w hkf hA hK hln hbd
  exact wins40_step n A cap L B cab C T hG f k (by omega) (fun K ck l w h1 h3 h4 h5 => by
   have := ih (k + 1) K ck l w (by omega) h1 h3 h4 (fun q => by have := h5 q; omega)
   rwa [Int.natCast_succ] at this) K ck l w hA hK hln hbd
end R24
end Go.Proofs
