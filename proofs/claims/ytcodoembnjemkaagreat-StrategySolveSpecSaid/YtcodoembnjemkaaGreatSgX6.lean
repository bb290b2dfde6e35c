/- Games on networks: whether the desk wins with a strategy, as the specification asks it. -/
import Derived.Test.YtcodoembnjemkaaGreatSgX5
set_option maxRecDepth 100000
set_option maxHeartbeats 400000000
set_option linter.unusedSectionVars false
set_option linter.unusedVariables false
set_option linter.unusedSimpArgs false
namespace Go.Proofs
open Go.RowKit Go.Kin Go.Kin.St Go.Kin.Ct Go.Kin.Sg
namespace R24
theorem kn_put_bd2 {l : List Int} {S : List Nat} {k : Nat} (h : ∀ q, 0 <= kn l q /\ kn l q <= (k : Int) + 1) : ∀ q, 0 <= kn (put l S (k + 1)) q /\ kn (put l S (k + 1)) q <= (k : Int) + 1 := fun q => by
 by_cases hq : q < l.length
 ·rw [put_kn hq]
  by_cases hm : q ∈ S
  ·rw [if_pos hm]; omega
  ·rw [if_neg hm]; exact h q
 ·rw [kn_over (by rw [put_len]; omega)]; omega
/-- a game as the specification takes it -/
structure RfG (n T : Nat) (L C : List Lk) : Prop where
 n0 : n ≠ 0
 n6 : n <= 6
 T : T <= 15
 l : L.length <= 1000
 c : C.length <= 1000
 C : ∀ x ∈ C, 0 <= x.fr /\ x.fr < n
 ck : R22.chk n L = 0
noncomputable def wnP (G : Gm) (t : Tab) (f k : Nat) (l : List Int) : Bool := @decide (Wn G t f k l) (Classical.propDecidable _)
theorem wnP_iff {G : Gm} {t : Tab} {f k : Nat} {l : List Int} : wnP G t f k l = true ↔ Wn G t f k l := @decide_eq_true_iff _ (Classical.propDecidable _)
/-- sets on the ground of a call -/
theorem sets_gnd {c : Cx} {mem : List (Nat × Obj)} {W W' : World} {i : XI} (h : Gnd c mem W W') (hb : W.heap.size <= i.b) (hc : W'.heap[i.b]? = some (.cells ⟨srF i.rs ++ i.r⟩ 37 (0, 0))) (hr : ∀ r ∈ i.rs, W.heap.size <= r.a /\ r.a < W'.heap.size /\ At W' (some ⟨r.a, 0, none⟩) 1 (r.S.map nE)) :
  (∀ (j : Nat) (r : XR), i.rs[j]? = some r -> Ext W' (allBut W' (mem.map (·.1))) i.b j [.slice (some ⟨r.a, 0, none⟩) r.S.length r.c]) /\ ∀ r ∈ i.rs, Ar W' (allBut W' (mem.map (·.1))) (some ⟨r.a, 0, none⟩) 1 (r.S.map nE) := by
 have hlt : i.b < W'.heap.size := by
  obtain ⟨h1, _⟩ := Array.getElem?_eq_some_iff.1 hc
  exact h1
 refine ⟨fun j r hj => ⟨h.new hb hlt, fun q v hq => ?_⟩, fun r hm => h.arNew (hr r hm).1 (hr r hm).2.2 (fun x hx => by obtain ⟨y, _, rfl⟩ := List.mem_map.1 hx; exact List.cons_ne_nil _ _) (hr r hm).2.1⟩
 cases q with
 | succ q => cases hq
 | zero =>
  cases hq
  have hW : SatW W' (allBut W' [i.b]) noJ [(i.b, .cells ⟨srF i.rs ++ i.r⟩ 37 (0, 0))] W' := satW_fresh (m := [(i.b, .cells ⟨srF i.rs ++ i.r⟩ 37 (0, 0))]) (List.nodup_cons.2 ⟨List.not_mem_nil, List.nodup_nil⟩) (fun p hp => by rw [List.mem_singleton.1 hp]; exact hc)
  rw [hW.cellAt (List.mem_singleton.2 rfl)]
  exact srF_get hj _
theorem d_rows {n : Nat} {d : List Int} (h : ∀ x ∈ d, 0 <= x /\ x < n) : d.map inE = (toN d).map nE := by
 unfold toN
 rw [List.map_map]
 refine List.map_congr_left fun x hx => ?_
 have := h x hx
 show inE x = nE x.toNat
 unfold inE nE
 rw [show ((x.toNat : Nat) : Int) = x by omega]
theorem d_all {n : Nat} {d : List Int} {fr : List Nat} (h : ∀ x ∈ d, 0 <= x /\ x < n) : (∀ x ∈ d, x ∈ castL fr) ↔ ∀ x ∈ toN d, x ∈ fr := by
 unfold toN castL
 constructor
 ·intro hh x hx
  obtain ⟨y, hy, rfl⟩ := List.mem_map.1 hx
  obtain ⟨z, hz, e⟩ := List.mem_map.1 (hh y hy)
  rw [<- e]; exact hz
 ·intro hh x hx
  have h1 := hh x.toNat (List.mem_map.2 ⟨x, hx, rfl⟩)
  have h2 := h x hx
  exact List.mem_map.2 ⟨x.toNat, h1, by omega⟩
theorem desk30_end (n : Nat) (A : Option Addr) (cap : Nat) (L : List Lk) (B : Option Addr) (cab : Nat) (C : List Lk) (T : Nat) (S : Option Addr) (cs m : Nat) (t : Tab) (hG : RfG n T L C) (K : Option Addr) (ck : Nat) (l : List Int) (w : World) (hA : (⟨n, A, cap, L, B, cab, C⟩ : R23.Un).In w) (hK : At w K 1 (l.map inE)) (hln : l.length = n) (hbd : ∀ q, 0 <= kn l q /\ kn l q <= (T : Int) + 1) :
  Calls Tryz.prog 30 ⟨[.agg ⟨[.int .i64 n, .slice A L.length cap, .slice B C.length cab]⟩, .int .i64 T, .int .i64 ((T : Int) + 1), .slice S m cs, .slice K l.length ck]⟩ w fun e w' => e = .returned (.bool (wnP ⟨n, T, L, C⟩ t 0 (T + 1) l)) /\ Below w.heap.size w w' := by
 have hT := hG.T
 have hb : ∀ x ∈ l, 0 <= x /\ x <= 1000 := fun x hx => by
  obtain ⟨q, hq⟩ := List.getElem?_of_mem hx
  have := hbd q
  rw [kn_get hq] at this
  omega
 have hk : ∀ (mem : List (Nat × Obj)) (W : World), SatW w (base w) noJ mem W -> Calls Tryz.prog 59 ⟨[.agg ⟨[.int .i64 n, .slice A L.length cap, .slice B C.length cab]⟩, .slice K l.length ck]⟩ W fun e w' => e = .returned (.bool (wnP ⟨n, T, L, C⟩ t 0 (T + 1) l)) /\ Below W.heap.size W w' := fun mem W hW =>
  kept59_calls n A cap L B cab C T K ck l W (hA.sat hW) (hK.sat hW) hln (by have := hG.n6; omega) hG.l hb hG.ck
 refine fEn Tryz.func30 rfl Tryz.ntmps30 rfl rfl (sWn w) ?_
 repeat (first|refine lVa rfl rfl (by first|exact pEv rfl|exact vLd rfl (by repeat constructor) rfl (by rfl)|fail) ?_|refine lNi ?_|refine cRg ?_|refine cSq ?_|refine xTh ?_|refine r_box rfl rfl rfl rfl (fun _ => ?_)|refine c_dec_t rfl (by first|omega|fail) ?_|fail)
 refine r_call rfl rfl rfl (fun W hW => hk _ W hW) ?_
 repeat (first|refine lVa rfl rfl (by first|exact pEv rfl|fail) ?_|refine lNi ?_|refine xTh ?_|refine c_ret ?_|refine xTr ?_|fail)
 exact x_ret rfl rfl (by repeat constructor) rfl (fun W hW => ⟨rfl, hW.below⟩)
theorem desk30_step (n : Nat) (A : Option Addr) (cap : Nat) (L : List Lk) (B : Option Addr) (cab : Nat) (C : List Lk) (T : Nat) (S : Option Addr) (cs : Nat) (rows : List DW) (hG : RfG n T L C) (hrl : rows.length <= 1000000) (hok : okS n T rows) (hdl : ∀ r ∈ rows, r.d.length <= 1000)
  (f k : Nat) (hkf : k + f = T)
  (ih : ∀ (K : Option Addr) (ck : Nat) (l : List Int) (w : World), (⟨n, A, cap, L, B, cab, C⟩ : R23.Un).In w -> StrIn w S rows -> At w K 1 (l.map inE) -> l.length = n -> (∀ q, 0 <= kn l q /\ kn l q <= (k : Int) + 1) -> Calls Tryz.prog 30 ⟨[.agg ⟨[.int .i64 n, .slice A L.length cap, .slice B C.length cab]⟩, .int .i64 T, .int .i64 ((k : Int) + 1), .slice S rows.length cs, .slice K l.length ck]⟩ w fun e w' => e = .returned (.bool (wnP ⟨n, T, L, C⟩ (tabW rows) f (k + 1) l)) /\ Below w.heap.size w w')
  (K : Option Addr) (ck : Nat) (l : List Int) (w : World) (hA : (⟨n, A, cap, L, B, cab, C⟩ : R23.Un).In w) (hS : StrIn w S rows) (hK : At w K 1 (l.map inE)) (hln : l.length = n) (hbd : ∀ q, 0 <= kn l q /\ kn l q <= k) :
  Calls Tryz.prog 30 ⟨[.agg ⟨[.int .i64 n, .slice A L.length cap, .slice B C.length cab]⟩, .int .i64 T, .int .i64 k, .slice S rows.length cs, .slice K l.length ck]⟩ w fun e w' => e = .returned (.bool (wnP ⟨n, T, L, C⟩ (tabW rows) (f + 1) k l)) /\ Below w.heap.size w w' := by
 have hn0 := hG.n0
 have hn6 := hG.n6
 have hT := hG.T
 have hc := hG.c
 obtain ⟨G, hGe⟩ : ∃ G : Gm, (⟨n, T, L, C⟩ : Gm) = G := ⟨_, rfl⟩
 have hmay := fun (mem : List (Nat × Obj)) (W : World) (hW : SatW w (base w) noJ mem W) => may60_calls n A cap L B cab C T k K ck l W (hA.sat hW) (hK.sat hW) hln (by omega) (by omega) hc hG.C hbd
 rw [hGe] at ih hmay ⊢
 obtain ⟨my, hmy⟩ : ∃ my, may G k l = my := ⟨_, rfl⟩
 obtain ⟨du, hdu⟩ : ∃ du, Sg.due G k l = du := ⟨_, rfl⟩
 rw [hmy, hdu] at hmay
 have hml : my.length <= 6 := by rw [<- hmy]; exact Nat.le_trans filt_len (by rw [<- hGe]; exact hn6)
 have hdl2 : du.length <= 6 := by rw [<- hdu]; exact Nat.le_trans filt_len (by rw [<- hGe]; exact hn6)
 have hmn : my.Nodup := by rw [<- hmy]; exact (may_inc G k l).imp fun h => Nat.ne_of_lt h
 have hch : ∀ Sx, Sx ∈ setsF du my ↔ Ch G k l Sx := fun Sx => by rw [<- hmy, <- hdu]; exact sets_ch
 obtain ⟨sf, hsf⟩ : ∃ sf, setsF du my = sf := ⟨_, rfl⟩
 have hsfl : sf.length <= 64 := by
  rw [<- hsf]
  have h1 := setsF_len (all := du) _ my rfl
  have h3 := Nat.pow_le_pow_right (n := 2) (by decide) hml
  omega
 refine fEn Tryz.func30 rfl Tryz.ntmps30 rfl rfl (sWn w) ?_
 repeat (first|refine lVa rfl rfl (by first|exact pEv rfl|exact vLd rfl (by repeat constructor) rfl (by rfl)|fail) ?_|refine lNi ?_|refine cRg ?_|refine cSq ?_|refine xTh ?_|refine r_box rfl rfl rfl rfl (fun _ => ?_)|refine c_dec_f rfl (by first|omega|fail) ?_|refine cSk ?_|fail)
 refine r_call2 (ι := { i : My // i.OK my du }) (v := fun i => .tuple ⟨[.slice (some ⟨i.1.b, 0, none⟩) my.length i.1.c, .slice (some ⟨i.1.b2, 0, none⟩) du.length i.1.c2]⟩) (bk := fun i => i.1.b) (bk2 := fun i => i.1.b2) (o := fun i => .cells ⟨flI (castL my) ++ i.1.r⟩ 3 (0, 0)) (o2 := fun i => .cells ⟨flI (castL du) ++ i.1.r2⟩ 3 (0, 0)) rfl rfl rfl (fun W hW => hmay _ W hW) (fun s => ?_)
 obtain ⟨⟨mb, mc, mr, db, dc, dr⟩, hm1, hm2⟩ := s
 simp only
 repeat (first|refine lVa rfl rfl (by first|exact pEv rfl|fail) ?_|refine lNi ?_|refine cRg ?_|refine cSq ?_|refine xTh ?_|fail)
 rename_i b5
 refine r_callG (ι := { i : XI // i.OK sf }) (v := fun i => .slice (some ⟨i.1.b, 0, none⟩) sf.length i.1.c) (Φ := fun i W W' => W.heap.size <= i.1.b /\ W'.heap[i.1.b]? = some (.cells ⟨srF i.1.rs ++ i.1.r⟩ 37 (0, 0)) /\ ∀ r ∈ i.1.rs, W.heap.size <= r.a /\ r.a < W'.heap.size /\ At W' (some ⟨r.a, 0, none⟩) 1 (r.S.map nE)) rfl rfl rfl (fun W hW => ?_) ?_
 ·have := sets61_calls (some ⟨mb, 0, none⟩) (some ⟨db, 0, none⟩) mc dc my du W (by rw [<- castL_rows]; exact at_flI hW (by repeat constructor)) (by rw [<- castL_rows]; exact at_flI hW (by repeat constructor)) hml (by omega)
  rw [hsf] at this
  exact this
 rintro ⟨⟨rs, sb, sc, sr⟩, hrs, hsg⟩ W0 W1 hGn ⟨hsb, hsc, hsr⟩
 simp only at hrs hsg hsb hsc hsr ⊢
 obtain ⟨hHd, hRw⟩ := sets_gnd (i := ⟨rs, sb, sc, sr⟩) hGn hsb hsc hsr
 have hS1 : Same (base w) w W1 := hGn.z.same
 have hD1 : ∀ q, base w q -> allBut W1 [db, mb, b5] q := fun q hq => hGn.dom hq
 simp only [List.map_cons, List.map_nil] at hHd hRw ⊢
 generalize allBut W1 [db, mb, b5] = D1 at *
 have hrl2 : rs.length = sf.length := by rw [<- hrs, List.length_map]
 have hVT : wnP G (tabW rows) (f + 1) k l = true ↔ ∀ Sx ∈ sf, (∀ x ∈ doD (tabW rows) k (put l Sx (k + 1)), x ∈ free G (put l Sx (k + 1))) /\ wnP G (tabW rows) f (k + 1) (put (put l Sx (k + 1)) (doD (tabW rows) k (put l Sx (k + 1))) (k + 1)) = true := by
  rw [wnP_iff]
  constructor
  ·intro h Sx hSx
   rw [<- hsf] at hSx
   obtain ⟨h1, h2⟩ := h Sx ((hch Sx).1 hSx)
   exact ⟨h1, wnP_iff.2 h2⟩
  ·intro h Sx hSx
   obtain ⟨h1, h2⟩ := h Sx (by rw [<- hsf]; exact (hch Sx).2 hSx)
   exact ⟨h1, wnP_iff.1 h2⟩
 have hlow : ∀ (mem : List (Nat × Obj)) (W : World), SatW W1 D1 noJ mem W -> Below w.heap.size w W := fun mem W hW => low hS1 hD1 hW
 repeat (first|refine lVa rfl rfl (by first|exact pEv rfl|fail) ?_|refine lNi ?_|refine cRg ?_|refine cSq ?_|refine xTh ?_|refine cBl ?_|fail)
 refine c_loop (ι := Nat) (fun j => j <= sf.length /\ ∀ Sx ∈ sf.take j, (∀ x ∈ doD (tabW rows) k (put l Sx (k + 1)), x ∈ free G (put l Sx (k + 1))) /\ wnP G (tabW rows) f (k + 1) (put (put l Sx (k + 1)) (doD (tabW rows) k (put l Sx (k + 1))) (k + 1)) = true) (fun j => [(1, .int .i64 T), (2, .int .i64 k), (3, .slice S rows.length cs), (4, .slice K l.length ck), (5, .pointer (some ⟨b5, 0, none⟩)), (13, .slice (some ⟨sb, 0, none⟩) sf.length sc), (14, .int .i64 j)])
  (fun _ => [(b5, .cells ⟨[.int .i64 n, .slice A L.length cap, .slice B C.length cab]⟩ 24 (0, 0))]) (fun j => sf.length - j) 0 ⟨Nat.zero_le _, fun Sx h => by cases h⟩ (by repeat (first|exact .nil|refine .cons rfl (by first|rfl|(congr 1; done)|exact congrArg _ (by omega)|(simp; done)) ?_)) (by repeat (first|exact .nil|refine .keep (by first|rfl|assumption) ?_|refine .drop ?_|exact MSub.refl _)) ?_
 rintro j ⟨hj, hF⟩
 by_cases hjt : j < sf.length
 rotate_left
 ·have hje : j = sf.length := by omega
  rw [hje, List.take_length] at hF
  have hyes := hVT.2 hF
  repeat (first|refine lVa rfl rfl (by first|exact pEv rfl|fail) ?_|refine lNi ?_|refine cRg ?_|refine cSq ?_|refine xTh ?_|refine c_dec_f rfl (by first|omega|fail) ?_|refine c_ret ?_|refine c_exit ?_|refine xTe ?_|refine xBs ?_|fail)
  exact x_ret rfl rfl (by repeat constructor) rfl (fun W hW => ⟨by rw [hyes], hlow _ W hW⟩)
 obtain ⟨⟨Sx, a, cr⟩, hr⟩ : ∃ r, rs[j]? = some r := ⟨_, List.getElem?_eq_getElem (by omega)⟩
 have hSj : sf[j]? = some Sx := by rw [<- hrs, List.getElem?_map, hr]; rfl
 have hSm : Sx ∈ sf := List.mem_of_getElem? hSj
 have eH := hHd j _ hr
 have hrA := hRw _ (List.mem_of_getElem? hr)
 simp only at eH hrA
 obtain ⟨hSl, hSin⟩ := setsF_row hmn (by rw [hsf]; exact hSm)
 have hSn : ∀ q ∈ Sx, q < l.length := fun q hq => by
  have h1 := hSin q hq
  rw [<- hmy] at h1
  have h2 := may_lt h1
  rw [<- hGe] at h2
  rw [hln]; exact h2
 obtain ⟨l1, hl1⟩ : ∃ l1, put l Sx ((k : Int) + 1) = l1 := ⟨_, rfl⟩
 have hl1n : l1.length = n := by rw [<- hl1, put_len]; exact hln
 have hno : ∀ (h : ¬ ((∀ x ∈ doD (tabW rows) k l1, x ∈ free G l1) /\ wnP G (tabW rows) f (k + 1) (put l1 (doD (tabW rows) k l1) (k + 1)) = true)), wnP G (tabW rows) (f + 1) k l = false := fun h => by
  cases hv : wnP G (tabW rows) (f + 1) k l with
  | false => rfl
  | true =>
   have := hVT.1 hv Sx hSm
   rw [hl1] at this
   exact absurd this h
 repeat (first|refine lVa rfl rfl (by first|exact pEv rfl|exact vL0 rfl (by assumption) rfl (by rfl)|exact v_index rfl rfl rfl rfl (by omega) (by omega) (by with_reducible first|exact idx1 _|fail)|fail) ?_|refine lNi ?_|refine cRg ?_|refine cSq ?_|refine xTh ?_|refine c_dec_t rfl (by first|omega|fail) ?_|refine cBl ?_|refine cSk ?_|fail)
 refine r_call1 (ι := NwR l1) (v := fun s => .slice (some ⟨s.1.1, 0, none⟩) l1.length s.1.2.1) (bk := fun s => s.1.1) (o := fun s => .cells ⟨flI l1 ++ s.1.2.2⟩ 3 (0, 0)) rfl rfl rfl
  (fun W hW => by
   have := put66_calls K ck l (some ⟨a, 0, none⟩) cr Sx k W (hK.later (hlow _ W hW)) (hrA.at hW) (by omega) (fun e => by rw [e] at hln; exact hn0 hln.symm) hSn (by omega) (by omega)
   rw [hl1] at this
   exact this.mono fun e W' h => h.r) (fun s => ?_)
 obtain ⟨⟨bp, cp, rp⟩, hgp⟩ := s
 simp only at hgp ⊢
 repeat (first|refine lVa rfl rfl (by first|exact pEv rfl|fail) ?_|refine lNi ?_|refine cRg ?_|refine cSq ?_|refine xTh ?_|fail)
 refine r_call rfl rfl rfl (fun W hW => choice67_calls S cs rows k (some ⟨bp, 0, none⟩) cp l1 W (hS.later (hlow _ W hW)) (by omega) (at_flI hW (by repeat constructor)) (fun r hr => by
  obtain ⟨j, hj, e⟩ := List.mem_iff_getElem.1 hr
  rw [hl1n]; exact (hok j r (by rw [List.getElem?_eq_getElem hj, e])).l) (by omega) (by omega)) ?_
 obtain ⟨D, cd, d, bq, hrw, hDa, hdd, hdb, hdn⟩ := rwV_dec hS hok hdl k l1
 rw [hrw]
 repeat (first|refine lVa rfl rfl (by first|exact pEv rfl|exact vLd rfl (by repeat constructor) rfl (by rfl)|fail) ?_|refine lNi ?_|refine cRg ?_|refine cSq ?_|refine xTh ?_|fail)
 refine r_call1 (ι := NwR (frI C l1 n)) (v := fun s => .slice (some ⟨s.1.1, 0, none⟩) (frI C l1 n).length s.1.2.1) (bk := fun s => s.1.1) (o := fun s => .cells ⟨flI (frI C l1 n) ++ s.1.2.2⟩ 3 (0, 0)) rfl rfl rfl
  (fun W hW => (free68_calls n A cap L B cab C (some ⟨bp, 0, none⟩) cp l1 W (hA.later (hlow _ W hW)) (at_flI hW (by repeat constructor)) hl1n (by omega) hc).mono fun e W' h => h.r) (fun s => ?_)
 obtain ⟨⟨bf, cf, rf⟩, hgf⟩ := s
 simp only at hgf ⊢
 obtain ⟨F, hF2⟩ : ∃ F, frI C l1 n = F := ⟨_, rfl⟩
 have hFl : F.length <= n := hF2 ▸ frI_len
 have hFr : F = castL (free G l1) := by rw [<- hF2, <- hGe]; rfl
 rw [hF2] at hgf ⊢
 obtain ⟨al, hal⟩ : ∃ al : Bool, al = true ↔ ∀ x ∈ toN d, x ∈ free G l1 := ⟨@decide _ (Classical.propDecidable _), @decide_eq_true_iff _ (Classical.propDecidable _)⟩
 skip
 refine r_call rfl rfl rfl (fun W hW => all64_calls D (some ⟨bf, 0, none⟩) cd cf d F al W (hDa.later (hlow _ W hW)) (at_flI hW (by repeat constructor)) hdn (by omega) (by rw [hal, hFr]; exact (d_all hdb).symm)) ?_
 rw [hdd] at hal
 cases al with
 | false =>
  have hn2 := hno fun h => by cases hal.2 h.1
  repeat (first|refine lVa rfl rfl (by first|exact pEv rfl|fail) ?_|refine lNi ?_|refine cRg ?_|refine cSq ?_|refine xTh ?_|refine c_true rfl ?_|refine c_ret ?_|refine xTr ?_|refine xBr ?_|fail)
  exact x_ret rfl rfl (by repeat constructor) rfl (fun W hW => ⟨by rw [hn2], hlow _ W hW⟩)
 | true =>
  have hal := hal.1 rfl
  obtain ⟨l2, hl2⟩ : ∃ l2, put l1 (toN d) ((k : Int) + 1) = l2 := ⟨_, rfl⟩
  have hl2n : l2.length = n := by rw [<- hl2, put_len]; exact hl1n
  have hl2b : ∀ q, 0 <= kn l2 q /\ kn l2 q <= (k : Int) + 1 := by rw [<- hl2, <- hl1]; exact kn_put_bd2 (kn_put_bd hbd)
  have hl2d : put l1 (doD (tabW rows) k l1) ((k : Int) + 1) = l2 := by rw [<- hdd]; exact hl2
  rw [hl2d] at hno
  obtain ⟨v, hv⟩ : ∃ v, wnP G (tabW rows) f (k + 1) l2 = v := ⟨_, rfl⟩
  repeat ((fail_if_success refine c_probe (id := 12) ?_); (fail_if_success refine c_probe1 (id := 12) ?_); first|refine lVa rfl rfl (by first|exact pEv rfl|fail) ?_|refine lNi ?_|refine xTh ?_|refine c_false rfl ?_|refine cSk ?_|fail)
  refine cSq ?_
  refine c_new 0 1 [(8, .calA 0 1 l2.length (flI l2) 3), (9, .cal (.bool v))] [(8, [0]), (9, [])] [(9, 0)] rfl (by decide +kernel) rfl ?_
  repeat (first|refine e_val rfl rfl rfl rfl (by first|exact v_add rfl rfl (by omega) (by omega)|exact pEv rfl|exact vLd rfl (by repeat constructor) rfl (by rfl)|fail) ?_|fail)
  refine e_callA rfl rfl rfl rfl rfl (by decide) flI_len (by unfold maxLen; omega) rfl (fun W hW => ?_) (fun b1 c1 r1 hgr => ?_)
  ·have hD3 : At W D 1 ((toN d).map nE) := by rw [<- d_rows hdb]; exact hDa.later (hlow _ W hW)
   have := put66_calls (some ⟨bp, 0, none⟩) cp l1 D cd (toN d) k W (at_flI hW (by repeat constructor)) hD3 (by omega) (fun e => by rw [e] at hl1n; exact hn0 hl1n.symm) (fun q hq => by
    unfold toN at hq
    obtain ⟨y, hy, rfl⟩ := List.mem_map.1 hq
    have := hdb y hy
    omega) (by unfold toN; rw [List.length_map]; omega) (by omega)
   rw [hl2, show (toN d).length = d.length by unfold toN; rw [List.length_map]] at this
   exact this
  skip
  refine e_call rfl rfl rfl rfl rfl (fun W hW => ?_) ?_
  ·have := ih (some ⟨b1, 0, none⟩) c1 l2 W (hA.later (hlow _ W hW)) (hS.later (hlow _ W hW)) (at_flI hW (by repeat constructor)) hl2n hl2b
   rw [hv] at this
   exact this
  rw [hv] at hno
  cases v with
  | false =>
   have hn2 := hno fun h => by cases h.2
   repeat (first|refine lVa rfl rfl (by first|exact pEv rfl|fail) ?_|refine lNi ?_|refine cRg ?_|refine cSq ?_|refine xTh ?_|refine c_true rfl ?_|refine c_ret ?_|refine xTr ?_|refine xBr ?_|refine e_val rfl rfl rfl rfl (by first|exact pEv rfl|fail) ?_|refine e_nil rfl ?_|fail)
   exact x_ret rfl rfl (by repeat constructor) rfl (fun W hW => ⟨by rw [hn2], hlow _ W hW⟩)
  | true =>
   repeat (first|refine lVa rfl rfl (by first|exact v_add rfl rfl (by omega) (by omega)|exact pEv rfl|fail) ?_|refine lNi ?_|refine cRg ?_|refine cSq ?_|refine xTh ?_|refine c_false rfl ?_|refine cSk ?_|refine x_block ?_|refine e_val rfl rfl rfl rfl (by first|exact pEv rfl|fail) ?_|refine e_nil rfl ?_|fail)
   refine x_back (j + 1) ⟨hjt, fun Sy hSy => ?_⟩ (by omega) (by repeat (first|exact .nil|refine .cons rfl (by first|rfl|(congr 1; done)|exact congrArg _ (by omega)|(simp; done)) ?_)) (by repeat (first|exact .nil|refine .keep (by first|rfl|assumption) ?_|refine .drop ?_|exact MSub.refl _))
   rw [List.take_add_one, hSj] at hSy
   rcases List.mem_append.1 hSy with h | h
   ·exact hF Sy h
   ·rw [List.mem_singleton.1 h, hl1]
    exact ⟨hal, by rw [hl2d]; exact hv⟩
theorem desk30_calls (n : Nat) (A : Option Addr) (cap : Nat) (L : List Lk) (B : Option Addr) (cab : Nat) (C : List Lk) (T : Nat) (S : Option Addr) (cs : Nat) (rows : List DW) (hG : RfG n T L C) (hrl : rows.length <= 1000000) (hok : okS n T rows) (hdl : ∀ r ∈ rows, r.d.length <= 1000) :
  ∀ (f k : Nat) (K : Option Addr) (ck : Nat) (l : List Int) (w : World), k + f = T + 1 -> (⟨n, A, cap, L, B, cab, C⟩ : R23.Un).In w -> StrIn w S rows -> At w K 1 (l.map inE) -> l.length = n -> (∀ q, 0 <= kn l q /\ kn l q <= k) ->
   Calls Tryz.prog 30 ⟨[.agg ⟨[.int .i64 n, .slice A L.length cap, .slice B C.length cab]⟩, .int .i64 T, .int .i64 k, .slice S rows.length cs, .slice K l.length ck]⟩ w fun e w' => e = .returned (.bool (wnP ⟨n, T, L, C⟩ (tabW rows) f k l)) /\ Below w.heap.size w w' := by
 intro f
 induction f with
 | zero =>
  intro k K ck l w hkf hA hS hK hln hbd
  have hk : k = T + 1 := by omega
  subst hk
  exact desk30_end n A cap L B cab C T S cs rows.length (tabW rows) hG K ck l w hA hK hln (fun q => by have := hbd q; omega)
 | succ f ih =>
  intro k K ck l w hkf hA hS hK hln hbd
  exact desk30_step n A cap L B cab C T S cs rows hG hrl hok hdl f k (by omega) (fun K ck l w h1 h2 h3 h4 h5 => by
   have := ih (k + 1) K ck l w (by omega) h1 h2 h3 h4 (fun q => by have := h5 q; omega)
   rwa [Int.natCast_succ] at this) K ck l w hA hS hK hln hbd
end R24
end Go.Proofs
