/- Editions: Signs, walked. -/
import Derived.Test.YtdegengehbdelaaGreatDoorTeA
set_option maxRecDepth 100000
set_option maxHeartbeats 400000000
set_option linter.unusedSectionVars false
set_option linter.unusedVariables false
set_option linter.unusedSimpArgs false
namespace Go.Proofs
open Go.RowKit Go.Kin Go.Kin.Se Go.Kin.Cl
namespace R41
theorem sgE_rows (l : List Sg) : ((l.map sgE).flatten).length = l.length * 14 := by
 induction l with
 | nil => rfl
 | cons x l ih =>
  rw [List.map_cons, List.flatten_cons, List.length_append, ih]
  show 14 + l.length * 14 = (l.length + 1) * 14
  omega
structure SgI (rd : List Int) (m : Nat) where
 l : List Sg
 b : Nat
 c : Nat
 r : List Value
 ok : ZOK rd m l
 gr : gOK sgE 14 l c r
def SgI.v {rd : List Int} {m : Nat} (i : SgI rd m) : Value := .tuple ⟨[gSl i.l i.b i.c, .int .i64 0]⟩
def SgI.m {rd : List Int} {m : Nat} (i : SgI rd m) : List (Nat × Obj) := gM sgE 52 i.l i.b i.r
/-- the readings passed, when those of some witnesses count for the next locus -/
def atP (rows : List RV) (k i : Nat) : Nat -> Int := fun q => if q < i then (cnt (rows.getD q ⟨none, 0, []⟩).l (k + 1) : Int) else (cnt (rows.getD q ⟨none, 0, []⟩).l k : Int)
theorem rows_getD {rows : List RV} {i : Nat} {v : RV} (h : rows[i]? = some v) : rows.getD i ⟨none, 0, []⟩ = v := by rw [List.getD_eq_getElem?_getD, h]; rfl
theorem atP_at {rows : List RV} {k i : Nat} {v : RV} (h : rows[i]? = some v) : atP rows k i i = (cnt v.l k : Int) := by
 unfold atP
 rw [if_neg (Nat.lt_irrefl _), rows_getD h]
theorem atP_z {rows : List RV} {k i : Nat} {v : RV} (h : rows[i]? = some v) (h0 : cnt v.l (k + 1) = cnt v.l k) : atP rows k (i + 1) = atP rows k i := by
 funext q
 unfold atP
 by_cases hq : q = i
 ·subst hq
  rw [if_pos (by omega), if_neg (Nat.lt_irrefl _), rows_getD h, h0]
 ·by_cases h2 : q < i
  ·rw [if_pos (by omega), if_pos h2]
  ·rw [if_neg (by omega), if_neg h2]
theorem atP_s {rows : List RV} {k i : Nat} {v : RV} (h : rows[i]? = some v) : iset (atP rows k i) i (cnt v.l (k + 1) : Int) = atP rows k (i + 1) := by
 funext q
 unfold iset atP
 by_cases hq : q = i
 ·subst hq
  rw [if_pos rfl, if_pos (by omega), rows_getD h]
 ·rw [if_neg hq]
  by_cases h2 : q < i
  ·rw [if_pos h2, if_pos (by omega)]
  ·rw [if_neg h2, if_neg (by omega)]
theorem atP_end {rows : List RV} {k n : Nat} : ivec n (atP rows k n) = ivec n (atP rows (k + 1) 0) := by
 unfold ivec vec
 refine List.map_congr_left fun q hq => ?_
 have := List.mem_range.1 hq
 unfold atP
 rw [if_pos this, if_neg (Nat.not_lt_zero _)]
theorem atP_0 {rows : List RV} : atP rows 0 0 = fun _ => 0 := by
 funext q
 unfold atP
 rw [if_neg (Nat.not_lt_zero _), cnt_0]; rfl
/-- a pointer to a reading's sign -/
def pV : Option (Nat × Rd) -> Value
 | none => .pointer none
 | some p => .pointer (some ⟨p.1, 1, none⟩)
def yB (p : Nat × Rd) : Nat × Obj := (p.1, .cells ⟨rdE p.2⟩ 55 (0, 0))
theorem msub_right : ∀ (l m : List (Nat × Obj)), MSub (l ++ m) m
 | [], m => .refl m
 | _ :: l, m => .drop (msub_right l m)
structure YSt where
 i : Nat
 Bs : List (Nat × Rd)
 so : Option (Nat × Rd)
 ex : Option (Nat × Rd)
 many : Nat
 lo : Bool
structure YOK (rows : List RV) (k : Nat) (code : Int) (s : YSt) : Prop where
 ok : ∀ p ∈ s.Bs, readB p.2 = true /\ p.2.lost = false /\ p.2.s.wf
 so : ∀ p, s.so = some p -> p ∈ s.Bs
 ex : ∀ p, s.ex = some p -> p ∈ s.Bs /\ cod p.2 = code
 got : ∀ i', i' < s.i -> ∀ v, rows[i']? = some v -> v.l[k]? = some code -> code ≠ 0 -> code ≠ lost -> s.ex ≠ none
 many : s.many <= s.i
structure GSt where
 k : Nat
 l : List Sg
 b : Nat
 c : Nat
 r : List Value
theorem hu94 : Tryz.prog.underlying 94 = some (.pointer 52) := by kernel_rfl
theorem signs11_calls (A : Option Addr) (cap : Nat) (ws : List Wi) (Ar : Option Addr) (capr : Nat) (rows : List RV) (m : Nat) (bA cA bR cR : Nat) (cl : List Nat) (t : Tr) (no : Int) (w : World) (hA : Kin.At w A 3 (ws.map wiE)) (hx : ∀ x ∈ ws, WiOK w x) (hws : ws.length <= 5)
  (hTb : TabIn w Ar rows) (hRows : rows.map RV.l = tabR ws) (htab : tabE ws = 0) (hC : cl ≠ [] -> Kin.At w (some ⟨bA, 0, none⟩) 1 (cl.map nE)) (hR : rdL rows t m ≠ [] -> Kin.At w (some ⟨bR, 0, none⟩) 1 ((rdL rows t m).map inE)) (hg : Glob w) (hO : OkTab rows m) (hT : OkTr rows.length cl t) (hk : chkB rows.length cl = true)
  (hroot : ∀ l r, t = .nd l r -> t.st ∈ cl) (hno : 0 <= no /\ no <= 1048576) (hS : SgOK ws rows (rdL rows t m) m) :
  Calls Tryz.prog 11 ⟨[.slice A ws.length cap, .slice Ar rows.length capr, .agg ⟨[.int .i64 no, gSl cl bA cA, .slice none 0 0, gSl (rdL rows t m) bR cR]⟩]⟩ w (FrQ [] (SgI.v (rd := rdL rows t m) (m := m)) (SgI.m (rd := rdL rows t m) (m := m)) w) := by
 have m64 := hO.m64
 have h34 := fun W (hW : Below w.heap.size w W) => check34_calls Ar capr rows m bA cA bR cR cl t no W (hTb.later hW) (fun h => (hC h).later hW) (fun h => (hR h).later hW) (hg.later hW) hO hT hk hroot hno
 have hrl : (rdL rows t m).length = m := rdL_len
 obtain ⟨rd, hrd⟩ : ∃ rd, rdL rows t m = rd := ⟨_, rfl⟩
 rw [hrd] at h34 hrl hR hS ⊢
 obtain ⟨Ac, kc, hAc⟩ := gSl_len (l := cl) (b := bA) (cap := cA)
 obtain ⟨Ad, kd, hAd, hRt⟩ : ∃ Ac kc, gSl rd bR cR = .slice Ac rd.length kc /\ Kin.At w Ac 1 (rd.map inE) := by
  by_cases hl : rd = []
  ·subst hl; exact ⟨none, 0, rfl, fun i r hr => by simp at hr⟩
  ·exact ⟨_, _, gSl_ne hl, hR hl⟩
 rw [hAc, hAd] at h34 ⊢
 refine fEn Tryz.func11 rfl Tryz.ntmps11 rfl rfl (sWn w) ?_
 repeat (first|refine lVa rfl rfl (by first|exact pEv rfl|fail) ?_|refine lNi ?_|refine cRg ?_|refine cSq ?_|refine xTh ?_|refine r_box rfl rfl rfl rfl (fun _ => ?_)|refine c_scope ?_|fail)
 rename_i b5
 refine l_callF (ι := Option Addr × Nat × List RV) (v := fun q => .tuple ⟨[.slice q.1 q.2.2.length q.2.1, .int .i64 (tabE ws)]⟩) (mem' := []) (fun q W W' => q.2.2.map RV.l = tabR ws /\ RowsF W W' q.1 q.2.2) rfl rfl rfl (by repeat (first|exact .nil|refine .keep (by first|rfl|assumption) ?_|refine .drop ?_|exact MSub.refl _)) (fun W hW => ?_) ?_
 ·refine (Table_calls A cap ws W (hA.sat hW) (fun x hxm => (hx x hxm).later hW.below) (by omega)).mono ?_
  rintro e W' ⟨TA, tc, rows, h1, h2, h3, h4⟩
  exact ⟨(TA, tc, rows), h1, h2, h3, h4⟩
 rintro ⟨TA, tc, rows2⟩ W W1 hV hB1 hW1 ⟨hr1, hr2⟩
 simp only at hr1 hr2 ⊢
 rw [htab]
 have hS1 : Same (base w) w W1 := hW1.same
 have hbel1 : Below w.heap.size w W1 := hS1.base_later
 have x5 : Ext W1 (allBut W1 (List.map (·.1) ([] : List (Nat × Obj)))) b5 0 [.int .i64 no, .slice Ac cl.length kc, .slice none 0 0, .slice Ad rd.length kd] := by
  have h5 : W.heap[b5]? = some (.cells ⟨[.int .i64 no, .slice Ac cl.length kc, .slice none 0 0, .slice Ad rd.length kd]⟩ 38 (0, 0)) := (hV.own (b5, _) (by repeat constructor)).2
  have h6 := (hB1.block b5 (lt_of_heap h5)).trans h5
  refine ⟨⟨lt_of_heap h6, by simp⟩, fun i v hi => ?_⟩
  unfold World.cell?
  simp only [h6, Nat.zero_add]
  simpa using hi
 have hTI2 : TabIn W1 TA rows2 := ⟨hr2.top.at', fun v hv => (hr2.row v hv).at'⟩
 have hA1 : Kin.At W1 A 3 (ws.map wiE) := hA.later hbel1
 have hx1 : ∀ x ∈ ws, WiOK W1 x := fun x h => (hx x h).later hbel1
 have hTb1 := hTb.later hbel1
 have hRt1 := hRt.later hbel1
 have h34' := fun W (hW : Below W1.heap.size W1 W) => h34 W (hbel1.trans (hW.mono hbel1.size))
 have hb : ∀ (mem : List (Nat × Obj)) (W : World), SatW W1 (allBut W1 (List.map (·.1) ([] : List (Nat × Obj)))) noJ mem W -> Below W1.heap.size W1 W := fun mem W hW => hW.same.below (Nat.le_refl _) fun k hk => ⟨hk, by simp⟩
 have hmv : ∀ {b o : Nat} {cs : List Value}, Ext W1 (base W1) b o cs -> Ext W1 (allBut W1 (List.map (·.1) ([] : List (Nat × Obj)))) b o cs := fun h => ⟨⟨h.dom, by simp⟩, h.cell⟩
 clear h34 hV hB1 hW1 hr2 hA hx hTb hC hR hRt hg hbel1
 repeat (first|refine lVa rfl rfl (by first|exact pEv rfl|fail) ?_|refine lNi ?_|refine cRg ?_|refine cSq ?_|refine xTh ?_|refine c_false rfl ?_|refine cSk ?_|fail)
 refine r_call rfl rfl rfl (fun W hW => eqf32_calls TA Ar tc capr rows2 rows W (hTI2.later (hb _ W hW)) (hTb1.later (hb _ W hW)) (hr1.trans hRows.symm) ?_ (fun v hv => ?_)) ?_
 ·have := congrArg List.length (hr1.trans hRows.symm)
  rw [List.length_map, List.length_map] at this
  have := hO.n5
  omega
 ·have h1 : v.l ∈ rows2.map RV.l := List.mem_map.2 ⟨v, hv, rfl⟩
  rw [hr1.trans hRows.symm] at h1
  obtain ⟨u, hu, e⟩ := List.mem_map.1 h1
  rw [<- e, hO.len u hu]; omega
 repeat (first|refine lVa rfl rfl (by first|exact pEv rfl|exact vL0 rfl (by assumption) rfl (by rfl)|fail) ?_|refine lNi ?_|refine cRg ?_|refine cSq ?_|refine xTh ?_|refine c_false rfl ?_|refine cSk ?_|fail)
 refine r_call rfl rfl rfl (fun W hW => h34' W (hb _ W hW)) ?_
 repeat (first|refine lVa rfl rfl (by first|exact pEv rfl|exact vLe rfl (by assumption) rfl (by rfl)|fail) ?_|refine lNi ?_|refine cRg ?_|refine cSq ?_|refine xTh ?_|refine r_make rfl rfl rfl rfl rfl rfl (by first|rfl|fail) (by omega) (by omega) rfl rfl (by first|exact flat_int|fail) (fun _ => ?_)|refine c_false rfl ?_|refine cBl ?_|refine cSk ?_|refine c_label ?_|fail)
 rename_i bat
 have hn := hS.n
 have n5 := hO.n5
 obtain ⟨n, hnn⟩ : ∃ n, ws.length = n := ⟨_, rfl⟩
 rw [hrl, hn, hnn, <- atP_0 (rows := rows)]
 rw [hn, hnn] at n5
 rw [hnn] at hn
 clear h34' hr1 hTI2 hRows htab x5 hT hk hroot
 refine c_loop (ι := GSt) (fun s => s.k <= m /\ ZOK rd s.k s.l /\ gOK sgE 14 s.l s.c s.r) (fun s => [(0, .slice A n cap), (1, .slice Ar n capr), (6, gSl s.l s.b s.c), (7, .int .i64 0), (10, .slice (some ⟨bat, 0, none⟩) n n), (44, .slice Ad m kd), (45, .int .i64 m), (46, .int .i64 s.k)])
  (fun s => (bat, .cells ⟨ivec n (atP rows s.k 0)⟩ 3 (0, 0)) :: gM sgE 52 s.l s.b s.r) (fun s => m - s.k) ⟨0, [], 0, 0, []⟩ ⟨Nat.zero_le _, ⟨rfl, fun s hs => (by cases hs)⟩, fun h => absurd rfl h⟩ (by repeat (first|exact .nil|refine .cons rfl (by first|rfl|(congr 1; done)|exact congrArg _ (by omega)|(simp; done)) ?_)) (.keep rfl .nil) ?_
 rintro ⟨k, sg, bs, cs, rs⟩ ⟨hkm, hZ, hgs⟩
 simp only at hkm hZ hgs ⊢
 have hgs' := fun (_ : Unit) => hgs
 clear hgs
 by_cases hlt : k < m
 rotate_left
 ·have hke : k = m := by omega
  subst hke
  repeat (first|refine lVa rfl rfl (by first|exact pEv rfl|fail) ?_|refine lNi ?_|refine cRg ?_|refine cSq ?_|refine xTh ?_|refine c_dec_f rfl (by first|omega|fail) ?_|refine c_ret ?_|refine c_exit ?_|refine xTe ?_|refine xBs ?_|refine x_scope_ret ?_|fail)
  exact x_ret rfl rfl (.tmp rfl (.tmp rfl .nil)) rfl (fun W hW => ⟨⟨sg, bs, cs, rs, hZ, hgs' ()⟩, rfl, frQ_gnd hS1 (hW.mono (List.sublist_cons_self _ _))⟩)
 obtain ⟨code, hcode⟩ : ∃ c, rd[k]? = some c := ⟨_, List.getElem?_eq_getElem (by omega)⟩
 obtain ⟨bR', oR', hAd', hcR⟩ := hRt1 k (inE code) (by rw [List.getElem?_map, hcode]; rfl)
 have y1 := hmv (ext_of hcR)
 rw [Nat.mul_one] at y1
 rw [hAd']
 repeat (first|refine lVa rfl rfl (by first|exact pEv rfl|exact vL0 rfl (by assumption) rfl (by rfl)|exact v_index rfl rfl rfl rfl (by omega) (by omega) (by with_reducible first|exact idx2 _ _|fail)|fail) ?_|refine lNi ?_|refine cRg ?_|refine cSq ?_|refine xTh ?_|refine c_dec_t rfl (by first|omega|fail) ?_|refine cBl ?_|refine cSk ?_|fail)
 refine c_loop (ι := YSt) (fun s => s.i <= n /\ YOK rows k code s) (fun s => [(0, .slice A n cap), (1, .slice Ar n capr), (6, gSl sg bs cs), (7, .int .i64 0), (10, .slice (some ⟨bat, 0, none⟩) n n), (44, .slice (some ⟨bR', oR', none⟩) m kd), (45, .int .i64 m), (46, .int .i64 k), (11, .int .i64 k), (12, .int .i64 code),
   (13, pV s.ex), (14, pV s.so), (15, .int .i64 s.many), (16, .bool s.lo), (51, .slice Ar n capr), (52, .int .i64 n), (53, .int .i64 s.i)])
  (fun s => (bat, .cells ⟨ivec n (atP rows k s.i)⟩ 3 (0, 0)) :: (s.Bs.map yB ++ gM sgE 52 sg bs rs)) (fun s => n - s.i) ⟨0, [], none, none, 0, false⟩ ⟨Nat.zero_le _, ⟨fun p hp => (by cases hp), fun p hp => (by cases hp), fun p hp => (by cases hp), fun i' h => (by cases h), Nat.le_refl _⟩⟩ (by repeat (first|exact .nil|refine .cons rfl (by first|rfl|(congr 1; done)|exact congrArg _ (by omega)|(simp; done)) ?_)) (by repeat (first|exact .nil|refine .keep (by first|rfl|assumption) ?_|refine .drop ?_|exact MSub.refl _)) ?_
 rintro ⟨i, Bs, so, ex, many, lo⟩ ⟨hin, hY⟩
 simp only at hin ⊢
 by_cases hli : i < n
 ·obtain ⟨v, hv⟩ : ∃ v, rows[i]? = some v := ⟨_, List.getElem?_eq_getElem (by omega)⟩
  obtain ⟨x, hwx⟩ : ∃ x, ws[i]? = some x := ⟨_, List.getElem?_eq_getElem (by omega)⟩
  have hvm := List.mem_of_getElem? hv
  have hvl := hO.len v hvm
  obtain ⟨e, he⟩ : ∃ e, v.l[k]? = some e := ⟨_, List.getElem?_eq_getElem (by omega)⟩
  obtain ⟨br, or, hAr', hcr⟩ := hTb1.ar i (rvE v) (by rw [List.getElem?_map, hv]; rfl)
  have y2 := hmv (ext_of hcr)
  obtain ⟨bv, ov, hAv, hcv⟩ := hTb1.row v hvm k (inE e) (by rw [List.getElem?_map, he]; rfl)
  have y3 := hmv (ext_of hcv)
  rw [Nat.mul_one] at y2 y3
  rw [hAv, hvl] at y2
  rw [hAr']
  obtain ⟨k1, k2, k3, k4, k5⟩ := hY
  simp only at k1 k2 k3 k4 k5
  by_cases he0 : e = 0
  ·have hat := atP_z (k := k) hv (cnt_z (by rw [he, he0]))
   repeat (first|refine lVa rfl rfl (by first|exact v_add rfl rfl (by omega) (by omega)|exact pEv rfl|exact vL0 rfl (by assumption) rfl (by rfl)|exact v_index rfl rfl rfl rfl (by omega) (by omega) (by with_reducible first|exact idx2 _ _|fail)|fail) ?_|refine lNi ?_|refine cRg ?_|refine cSq ?_|refine xTh ?_|refine c_dec_t rfl (by first|omega|fail) ?_|refine cBl ?_|refine cSk ?_|refine c_exit ?_|refine xTe ?_|refine xBs ?_|fail)
   refine x_back ⟨i + 1, Bs, so, ex, many, lo⟩ ⟨hli, k1, k2, k3, fun i' h v' hv' hc hc0 hcl => ?_, Nat.le_succ_of_le k5⟩ (by simp only; omega) (by repeat (first|exact .nil|refine .cons rfl (by first|rfl|(congr 1; done)|exact congrArg _ (by omega)|(simp; done)) ?_)) (.keep (by rw [hat]) (.refl _))
   by_cases hii : i' = i
   ·subst hii
    rw [hv] at hv'
    cases hv'
    rw [he] at hc
    exact absurd ((Option.some.inj hc).symm.trans he0) hc0
   ·exact k4 i' (by simp only at h; omega) v' hv' hc hc0 hcl
  obtain ⟨hc1, r, hr, hcr', hrb⟩ := hS.at hv hwx he he0
  have hcn := hS.cnt_le hv hwx k
  have hcnx := (List.getElem?_eq_some_iff.1 hr).1
  have hxm := List.mem_of_getElem? hwx
  have hxo := hx1 x hxm
  have hx64 := (hS.ok x hxm).2
  have hrwf := hxo.wf r (List.mem_of_getElem? hr)
  obtain ⟨bw, ow, hA', hcw⟩ := hA1 i (wiE x) (by rw [List.getElem?_map, hwx]; rfl)
  have y4 := (hmv (ext_of hcw)).at (i := 2) rfl
  obtain ⟨bx, ox, hAx, hcx⟩ := hxo.at' (cnt v.l k) (rdE r) (by rw [List.getElem?_map, hr]; rfl)
  have y5 := hmv (ext_of hcx)
  rw [hAx] at y4
  have hget : (ivec n (atP rows k i))[i]? = some (.int .i64 (cnt v.l k : Int)) := by rw [ivec_get hli, atP_at hv]
  have hset : (ivec n (atP rows k i)).set i (.int .i64 ((cnt v.l k : Int) + 1)) = ivec n (atP rows k (i + 1)) := by
   rw [<- atP_s hv, hc1, <- ivec_set]; rfl
  have hlen := ivec_length n (atP rows k i)
  obtain ⟨cv, hcv'⟩ : ∃ cv, ivec n (atP rows k i) = cv := ⟨_, rfl⟩
  rw [hcv'] at hget hset hlen ⊢
  obtain ⟨cn, hcne⟩ : ∃ cn, cnt v.l k = cn := ⟨_, rfl⟩
  rw [hcne] at hget hset hcn hcnx y5
  rw [hA']
  clear hc1 hcne hcx hcw hcv hcr hxo hr
  repeat ((fail_if_success refine c_probe (id := 19) ?_); (fail_if_success refine c_probe1 (id := 19) ?_); first|refine lVa rfl rfl (by first|exact pEv rfl|exact vL0 rfl (by assumption) rfl (by rfl)|exact v_index rfl rfl rfl rfl (by omega) (by omega) (by with_reducible first|exact idx2 _ _|fail)|fail) ?_|refine lNi ?_|refine cRg ?_|refine cSq ?_|refine xTh ?_|refine c_dec_t rfl (by first|omega|fail) ?_|refine c_dec_f rfl (by first|omega|fail) ?_|refine cBl ?_|refine cSk ?_|fail)
  have he0' := fun (_ : Unit) => he0
  clear he0
  refine cSq ?_
  refine c_new 0 1 [(11, .new 0), (12, .sto 0 0 15)] [(11, [0]), (12, [0])] [] rfl (by decide +kernel) rfl ?_; repeat (first|refine e_val rfl rfl rfl rfl (vL0 rfl y4 rfl (by rfl)) ?_|refine e_val rfl rfl rfl rfl (v_load_at (b := bat) rfl (by repeat constructor) rfl rfl hget) ?_|refine e_val rfl rfl rfl rfl (vL0 rfl y5 rfl (by rfl)) ?_|refine e_store rfl rfl rfl rfl rfl rfl rfl rfl rfl rfl rfl (by decide) (splice_lit (by rfl)) ?_|refine r_store_at rfl rfl rfl rfl rfl rfl (by repeat constructor) (by omega) hset ?_|refine lVa rfl rfl (by first|exact v_add rfl rfl (by omega) (by omega)|exact pEv rfl|exact vLd rfl (by repeat constructor) rfl (by rfl)|exact v_index rfl rfl rfl rfl (by omega) (by omega) (by with_reducible first|exact idx1 _|fail)|exact v_load_at rfl (by repeat constructor) rfl rfl (by first|assumption|fail)|fail) ?_|refine lNi ?_|refine cRg ?_|refine cSq ?_|refine xTh ?_|refine e_val rfl rfl rfl rfl (by first|exact pEv rfl|exact v_index rfl rfl rfl rfl (by omega) (by omega) (by with_reducible first|exact idx1 _|exact idx4 _ _ _|fail)|fail) ?_|refine e_new rfl rfl rfl rfl (by first|exact n_alloc rfl (by first|exact aggL|fail)|fail) (fun _ => ?_)|refine e_nil rfl ?_|fail)
  rename_i b9
  have hnx : ∀ (so' ex' : Option (Nat × Rd)), (∀ p, so' = some p -> p ∈ (b9, r) :: Bs) -> (∀ p, ex' = some p -> p ∈ (b9, r) :: Bs /\ cod p.2 = code) -> (ex' = none -> ex = none /\ e ≠ code) -> r.lost = false -> YOK rows k code ⟨i + 1, (b9, r) :: Bs, so', ex', many + 1, lo⟩ := fun so' ex' q1 q2 q3 hrl => ⟨fun p hp => by
   rcases List.mem_cons.1 hp with rfl | hp
   ·exact ⟨hrb, hrl, hrwf⟩
   ·exact k1 p hp, q1, q2, fun i' h v' hv' hc hc0 hcl hexn => by
   obtain ⟨q4, q5⟩ := q3 hexn
   by_cases hii : i' = i
   ·subst hii
    rw [hv] at hv'
    cases hv'
    rw [he] at hc
    exact q5 (Option.some.inj hc)
   ·exact k4 i' (by simp only at h; omega) v' hv' hc hc0 hcl q4, Nat.succ_le_succ k5⟩
  obtain ⟨rlo, rs1⟩ := r
  simp only at hnx hrwf y5 hcr' hrb hget ⊢
  cases rlo with
  | true =>
   repeat (first|refine lVa rfl rfl (by first|exact v_add rfl rfl (by omega) (by omega)|exact pEv rfl|fail) ?_|refine lNi ?_|refine cRg ?_|refine cSq ?_|refine xTh ?_|refine c_true rfl ?_|refine c_exit ?_|refine xTe ?_|refine xBs ?_|fail)
   refine x_back ⟨i + 1, Bs, so, ex, many, true⟩ ⟨hli, k1, k2, k3, fun i' h v' hv' hc hc0 hcl => ?_, Nat.le_succ_of_le k5⟩ (by simp only; omega) (by repeat (first|exact .nil|refine .cons rfl (by first|rfl|(congr 1; done)|exact congrArg _ (by omega)|(simp; done)) ?_)) (.drop (.keep rfl (.refl _)))
   by_cases hii : i' = i
   ·subst hii
    rw [hv] at hv'
    cases hv'
    rw [he] at hc
    exact absurd ((Option.some.inj hc).symm.trans (hcr'.symm.trans (read_t rfl))) hcl
   ·exact k4 i' (by simp only at h; omega) v' hv' hc hc0 hcl
  | false =>
   have hY := fun so' ex' a b c => hnx so' ex' a b c rfl
   clear hnx
   cases so with
   | none =>
    cases ex with
    | some p1 =>
     simp only [pV]
     repeat (first|refine lVa rfl rfl (v_eqNilP hu94 rfl) ?_|refine lVa rfl rfl (v_eqNilP0 hu94 rfl) ?_|refine lVa rfl rfl (by first|exact v_add rfl rfl (by omega) (by omega)|exact pEv rfl|fail) ?_|refine lNi ?_|refine cRg ?_|refine cSq ?_|refine xTh ?_|refine l_skip rfl rfl ?_|refine c_true rfl ?_|refine c_false rfl ?_|refine cSk ?_|refine x_block ?_|fail)
     refine x_perm (.swap _ _ _) ?_
     exact x_back ⟨i + 1, (b9, ⟨false, rs1⟩) :: Bs, some (b9, ⟨false, rs1⟩), some p1, many + 1, lo⟩ ⟨hli, hY _ _ (fun p hp => by cases hp; exact List.mem_cons_self) (fun p hp => by cases hp; exact ⟨List.mem_cons_of_mem _ (k3 _ rfl).1, (k3 _ rfl).2⟩) (fun h => by cases h)⟩ (by simp only; omega) (by repeat (first|exact .nil|refine .cons rfl (by first|rfl|(congr 1; done)|exact congrArg _ (by omega)|(simp; done)) ?_)) (.keep rfl (.keep rfl (.refl _)))
    | none =>
     simp only [pV]
     by_cases hec : e = code
     ·skip
      repeat (first|refine lVa rfl rfl (v_eqNilP0 hu94 rfl) ?_|refine lVa rfl rfl (by first|exact v_add rfl rfl (by omega) (by omega)|exact pEv rfl|exact vL0 rfl (by assumption) rfl (by rfl)|exact v_index rfl rfl rfl rfl (by omega) (by omega) (by with_reducible first|exact idx2 _ _|fail)|fail) ?_|refine lNi ?_|refine cRg ?_|refine cSq ?_|refine xTh ?_|refine c_true rfl ?_|refine c_false rfl ?_|refine c_dec_t rfl (by first|omega|fail) ?_|refine cSk ?_|refine x_block ?_|fail)
      refine x_perm (.swap _ _ _) ?_
      exact x_back ⟨i + 1, (b9, ⟨false, rs1⟩) :: Bs, some (b9, ⟨false, rs1⟩), some (b9, ⟨false, rs1⟩), many + 1, lo⟩ ⟨hli, hY _ _ (fun p hp => by cases hp; exact List.mem_cons_self) (fun p hp => by cases hp; exact ⟨List.mem_cons_self, hcr'.trans hec⟩) (fun h => by cases h)⟩ (by simp only; omega) (by repeat (first|exact .nil|refine .cons rfl (by first|rfl|(congr 1; done)|exact congrArg _ (by omega)|(simp; done)) ?_)) (.keep rfl (.keep rfl (.refl _)))
     ·skip
      repeat (first|refine lVa rfl rfl (v_eqNilP0 hu94 rfl) ?_|refine lVa rfl rfl (by first|exact v_add rfl rfl (by omega) (by omega)|exact pEv rfl|exact vL0 rfl (by assumption) rfl (by rfl)|exact v_index rfl rfl rfl rfl (by omega) (by omega) (by with_reducible first|exact idx2 _ _|fail)|fail) ?_|refine lNi ?_|refine cRg ?_|refine cSq ?_|refine xTh ?_|refine c_true rfl ?_|refine c_false rfl ?_|refine c_dec_f rfl (by first|omega|fail) ?_|refine cSk ?_|refine x_block ?_|fail)
      refine x_perm (.swap _ _ _) ?_
      exact x_back ⟨i + 1, (b9, ⟨false, rs1⟩) :: Bs, some (b9, ⟨false, rs1⟩), none, many + 1, lo⟩ ⟨hli, hY _ _ (fun p hp => by cases hp; exact List.mem_cons_self) (fun p hp => by cases hp) (fun _ => ⟨rfl, hec⟩)⟩ (by simp only; omega) (by repeat (first|exact .nil|refine .cons rfl (by first|rfl|(congr 1; done)|exact congrArg _ (by omega)|(simp; done)) ?_)) (.keep rfl (.keep rfl (.refl _)))
   | some p0 =>
    cases ex with
    | some p1 =>
     simp only [pV]
     repeat (first|refine lVa rfl rfl (v_eqNilP hu94 rfl) ?_|refine lVa rfl rfl (by first|exact v_add rfl rfl (by omega) (by omega)|exact pEv rfl|fail) ?_|refine lNi ?_|refine cRg ?_|refine cSq ?_|refine xTh ?_|refine l_skip rfl rfl ?_|refine c_false rfl ?_|refine cSk ?_|refine x_block ?_|fail)
     refine x_perm (.swap _ _ _) ?_
     exact x_back ⟨i + 1, (b9, ⟨false, rs1⟩) :: Bs, some p0, some p1, many + 1, lo⟩ ⟨hli, hY _ _ (fun p hp => by cases hp; exact List.mem_cons_of_mem _ (k2 _ rfl)) (fun p hp => by cases hp; exact ⟨List.mem_cons_of_mem _ (k3 _ rfl).1, (k3 _ rfl).2⟩) (fun h => by cases h)⟩ (by simp only; omega) (by repeat (first|exact .nil|refine .cons rfl (by first|rfl|(congr 1; done)|exact congrArg _ (by omega)|(simp; done)) ?_)) (.keep rfl (.keep rfl (.refl _)))
    | none =>
     simp only [pV]
     by_cases hec : e = code
     ·skip
      repeat (first|refine lVa rfl rfl (v_eqNilP hu94 rfl) ?_|refine lVa rfl rfl (v_eqNilP0 hu94 rfl) ?_|refine lVa rfl rfl (by first|exact v_add rfl rfl (by omega) (by omega)|exact pEv rfl|exact vL0 rfl (by assumption) rfl (by rfl)|exact v_index rfl rfl rfl rfl (by omega) (by omega) (by with_reducible first|exact idx2 _ _|fail)|fail) ?_|refine lNi ?_|refine cRg ?_|refine cSq ?_|refine xTh ?_|refine c_false rfl ?_|refine c_dec_t rfl (by first|omega|fail) ?_|refine cSk ?_|refine x_block ?_|fail)
      refine x_perm (.swap _ _ _) ?_
      exact x_back ⟨i + 1, (b9, ⟨false, rs1⟩) :: Bs, some p0, some (b9, ⟨false, rs1⟩), many + 1, lo⟩ ⟨hli, hY _ _ (fun p hp => by cases hp; exact List.mem_cons_of_mem _ (k2 _ rfl)) (fun p hp => by cases hp; exact ⟨List.mem_cons_self, hcr'.trans hec⟩) (fun h => by cases h)⟩ (by simp only; omega) (by repeat (first|exact .nil|refine .cons rfl (by first|rfl|(congr 1; done)|exact congrArg _ (by omega)|(simp; done)) ?_)) (.keep rfl (.keep rfl (.refl _)))
     ·skip
      repeat (first|refine lVa rfl rfl (v_eqNilP hu94 rfl) ?_|refine lVa rfl rfl (v_eqNilP0 hu94 rfl) ?_|refine lVa rfl rfl (by first|exact v_add rfl rfl (by omega) (by omega)|exact pEv rfl|exact vL0 rfl (by assumption) rfl (by rfl)|exact v_index rfl rfl rfl rfl (by omega) (by omega) (by with_reducible first|exact idx2 _ _|fail)|fail) ?_|refine lNi ?_|refine cRg ?_|refine cSq ?_|refine xTh ?_|refine c_false rfl ?_|refine c_dec_f rfl (by first|omega|fail) ?_|refine cSk ?_|refine x_block ?_|fail)
      refine x_perm (.swap _ _ _) ?_
      exact x_back ⟨i + 1, (b9, ⟨false, rs1⟩) :: Bs, some p0, none, many + 1, lo⟩ ⟨hli, hY _ _ (fun p hp => by cases hp; exact List.mem_cons_of_mem _ (k2 _ rfl)) (fun p hp => by cases hp) (fun _ => ⟨rfl, hec⟩)⟩ (by simp only; omega) (by repeat (first|exact .nil|refine .cons rfl (by first|rfl|(congr 1; done)|exact congrArg _ (by omega)|(simp; done)) ?_)) (.keep rfl (.keep rfl (.refl _)))
 have hie : i = n := by omega
 rw [hie] at hY ⊢
 clear hie hli hin
 obtain ⟨k1, k2, k3, k4, k5⟩ := hY
 simp only at k1 k2 k3 k4 k5
 have hgd : rd.getD k 0 = code := by rw [List.getD_eq_getElem?_getD, hcode]; rfl
 by_cases hc0 : code = 0
 ·repeat (first|refine lVa rfl rfl (by first|exact v_add rfl rfl (by omega) (by omega)|exact pEv rfl|fail) ?_|refine lNi ?_|refine cRg ?_|refine cSq ?_|refine xTh ?_|refine c_dec_t rfl (by first|omega|fail) ?_|refine c_dec_f rfl (by first|omega|exact fun h => h rfl|fail) ?_|refine c_exit ?_|refine xTe ?_|refine xBs ?_|fail)
  exact x_back ⟨k + 1, sg, bs, cs, rs⟩ ⟨hlt, hZ.skip (hgd.trans hc0), hgs' ()⟩ (by simp only; omega) (by repeat (first|exact .nil|refine .cons rfl (by first|rfl|(congr 1; done)|exact congrArg _ (by omega)|(simp; done)) ?_)) (.keep (by rw [atP_end]) (msub_right _ _))
 obtain ⟨hcl, i', v', hv', hc'⟩ := hS.cov k code hcode hc0
 have hex := k4 i' (by have := (List.getElem?_eq_some_iff.1 hv').1; omega) v' hv' hc' hc0 hcl
 cases ex with
 | none => exact absurd rfl hex
 | some p1 =>
 obtain ⟨bq, rq'⟩ := p1
 obtain ⟨hpm, hpc⟩ := k3 _ rfl
 obtain ⟨hrb, hrl', hrw⟩ := k1 _ hpm
 obtain ⟨f1, f2, f3, f4, f5⟩ := read_f hrb hrl'
 simp only at hpc hrb hrl' hrw f1 f2 f3 f4 f5
 obtain ⟨rlo, rq⟩ := rq'
 simp only at hpc hrb hrl' hrw f1 f2 f3 f4 f5
 subst hrl'
 have hm3 : 1 <= rq.mark /\ rq.mark <= 3 := (of_decide_eq_true f1 : formP rq).2.2.2.2.1
 have hcb := codeV_bd f2
 have hsg : sgnA code = (unp code, 0) := sgnA_t (by rw [<- hpc, f5]; exact (okS_bare _).trans f2)
 have hSign := fun W => Sign_calls code W (by rw [<- hpc, f3]; omega)
 rw [hsg] at hSign
 have hk1000 : k <= 1000 := by omega
 have hZ' : ∀ mk, 1 <= mk /\ mk <= 3 -> ZOK rd (k + 1) (sg ++ [zS code k rq mk]) := fun mk hm => hZ.snoc hgd hc0 hk1000 f1 hrw (by rw [<- hpc, f5]) (by rw [<- hpc, f3]) hm
 have hsgl : sg.length <= 64 := by
  have h1 := congrArg List.length hZ.ls
  rw [List.length_map, List.length_map] at h1
  have h2 := List.length_filter_le (fun j : Nat => decide (rd.getD j 0 ≠ 0)) (List.range k)
  rw [List.length_range] at h2
  omega
 have hinT : (bq, Obj.cells ⟨rdE ⟨false, rq⟩⟩ 55 (0, 0)) ∈ (Bs.map yB ++ gM sgE 52 sg bs rs) := List.mem_append_left _ (List.mem_map.2 ⟨_, hpm, rfl⟩)
 have hc0' := hc0
 simp only [pV]
 have hmany := k5
 clear k1 k2 k3 k4 hex hpm hpc hrb f3 f4 f5 hcb hsg hS hO hRt1 hA1 hx1 hTb1 hgd
 repeat (first|refine lVa rfl rfl (v_eqNilP hu94 rfl) ?_|refine lVa rfl rfl (by first|exact pEv rfl|fail) ?_|refine lNi ?_|refine cRg ?_|refine cSq ?_|refine xTh ?_|refine c_false rfl ?_|refine c_dec_f rfl (by first|omega|fail) ?_|refine cSk ?_|refine c_exit ?_|refine xTe ?_|refine xBs ?_|fail)
 refine r_call rfl rfl rfl (fun W _ => hSign W) ?_
 clear hc0 hc0'
 unfold vS
 repeat ((fail_if_success refine c_probe (id := 37) ?_); (fail_if_success refine c_probe1 (id := 37) ?_); first|refine lVa rfl rfl (by first|exact pEv rfl|fail) ?_|refine lNi ?_|refine cRg ?_|refine cSq ?_|refine xTh ?_|refine r_alloc rfl rfl rfl (by first|exact aggL|fail) (fun _ => ?_)|refine rSt rfl rfl rfl rfl rfl rfl rfl (by repeat constructor) (by rfl) ?_|refine c_false rfl ?_|refine cSk ?_|fail)
 rename_i b20
 refine cSq ?_
 refine c_new 1 0 [(18, .sto 0 0 1), (20, .sto 0 2 1), (22, .sto 0 3 1), (24, .sto 0 10 2), (26, .sto 0 12 2)] [(18, [0]), (20, [0]), (22, [0]), (24, [0]), (26, [0])] [] rfl (by decide +kernel) rfl ?_
 repeat (first|refine e_val rfl rfl rfl rfl (vLd (b := bq) rfl (by repeat (first|exact hinT|apply List.Mem.tail)) rfl (by rfl)) ?_|refine lVa rfl rfl (by first|exact pEv rfl|fail) ?_|refine cRg ?_|refine cSq ?_|refine xTh ?_|refine e_val rfl rfl rfl rfl (by first|exact pEv rfl|fail) ?_|refine e_store rfl rfl rfl rfl rfl rfl rfl rfl (by first|rfl|fail) rfl rfl (by first|(simp; done)|fail) (by first|exact splice_lit (by rfl)|fail) ?_|refine e_nil rfl ?_|fail)
 by_cases hn1 : 1 < n
 rotate_left
 ·skip
  repeat (first|refine lVa rfl rfl (by first|exact pEv rfl|exact vLd rfl (by repeat constructor) rfl (by rfl)|fail) ?_|refine lNi ?_|refine cRg ?_|refine xTh ?_|refine l_skip rfl rfl ?_|refine r_buildSlice rfl rfl rfl rfl rfl rfl (by rfl) (fun _ => ?_)|refine c_false rfl ?_|refine cSk ?_|refine l_dec_f rfl rfl rfl rfl rfl (by first|omega|fail) ?_|fail)
  refine r_appendZ (f := sgE) (e := 52) (sz := 14) (xs := sg) (ys := [zS code k rq rq.mark]) (m := 1) rfl rfl rfl rfl rfl rfl rfl (.inr ⟨_, 0, rfl, news_own (by repeat constructor)⟩) (perm_tl (X := [_, _, _]) (G := Bs.map yB)) (hgs' ()) sgE_rows rfl rfl (by omega) (by unfold maxLen; omega) (fun b8 c8 r8 hg8 => ?_)
  have hg8' := fun (_ : Unit) => hg8
  clear hg8
  repeat (first|refine lVa rfl rfl (by first|exact v_add rfl rfl (by omega) (by omega)|exact pEv rfl|fail) ?_|refine lNi ?_|refine cRg ?_|refine xTh ?_|refine x_block ?_|fail)
  refine x_perm List.perm_append_comm ?_
  exact x_back ⟨k + 1, sg ++ [zS code k rq rq.mark], b8, c8, r8⟩ ⟨hlt, hZ' _ hm3, hg8' ()⟩ (by simp only; omega) (by repeat (first|exact .nil|refine .cons rfl (by first|rfl|(congr 1; done)|exact congrArg _ (by omega)|(simp; done)) ?_)) (.drop (.drop (.keep (by rw [atP_end]) (msub_right _ _))))
 by_cases hm1 : many = 1
 rotate_left
 ·skip
  repeat (first|refine lVa rfl rfl (by first|exact pEv rfl|exact vLd rfl (by repeat constructor) rfl (by rfl)|fail) ?_|refine lNi ?_|refine cRg ?_|refine xTh ?_|refine l_skip rfl rfl ?_|refine r_buildSlice rfl rfl rfl rfl rfl rfl (by rfl) (fun _ => ?_)|refine c_false rfl ?_|refine cSk ?_|refine l_dec_t rfl rfl rfl rfl rfl (by first|omega|fail) ?_|refine l_dec_f rfl rfl rfl rfl rfl (by first|omega|fail) ?_|fail)
  refine r_appendZ (f := sgE) (e := 52) (sz := 14) (xs := sg) (ys := [zS code k rq rq.mark]) (m := 1) rfl rfl rfl rfl rfl rfl rfl (.inr ⟨_, 0, rfl, news_own (by repeat constructor)⟩) (perm_tl (X := [_, _, _]) (G := Bs.map yB)) (hgs' ()) sgE_rows rfl rfl (by omega) (by unfold maxLen; omega) (fun b8 c8 r8 hg8 => ?_)
  have hg8' := fun (_ : Unit) => hg8
  clear hg8
  repeat (first|refine lVa rfl rfl (by first|exact v_add rfl rfl (by omega) (by omega)|exact pEv rfl|fail) ?_|refine lNi ?_|refine cRg ?_|refine xTh ?_|refine x_block ?_|fail)
  refine x_perm List.perm_append_comm ?_
  exact x_back ⟨k + 1, sg ++ [zS code k rq rq.mark], b8, c8, r8⟩ ⟨hlt, hZ' _ hm3, hg8' ()⟩ (by simp only; omega) (by repeat (first|exact .nil|refine .cons rfl (by first|rfl|(congr 1; done)|exact congrArg _ (by omega)|(simp; done)) ?_)) (.drop (.drop (.keep (by rw [atP_end]) (msub_right _ _))))
 cases lo with
 | true =>
  repeat (first|refine lVa rfl rfl (by first|exact pEv rfl|exact vLd rfl (by repeat constructor) rfl (by rfl)|fail) ?_|refine lNi ?_|refine cRg ?_|refine xTh ?_|refine r_buildSlice rfl rfl rfl rfl rfl rfl (by rfl) (fun _ => ?_)|refine c_false rfl ?_|refine cSk ?_|refine l_dec_t rfl rfl rfl rfl rfl (by first|omega|fail) ?_|fail)
  refine r_appendZ (f := sgE) (e := 52) (sz := 14) (xs := sg) (ys := [zS code k rq rq.mark]) (m := 1) rfl rfl rfl rfl rfl rfl rfl (.inr ⟨_, 0, rfl, news_own (by repeat constructor)⟩) (perm_tl (X := [_, _, _]) (G := Bs.map yB)) (hgs' ()) sgE_rows rfl rfl (by omega) (by unfold maxLen; omega) (fun b8 c8 r8 hg8 => ?_)
  have hg8' := fun (_ : Unit) => hg8
  clear hg8
  repeat (first|refine lVa rfl rfl (by first|exact v_add rfl rfl (by omega) (by omega)|exact pEv rfl|fail) ?_|refine lNi ?_|refine cRg ?_|refine xTh ?_|refine x_block ?_|fail)
  refine x_perm List.perm_append_comm ?_
  exact x_back ⟨k + 1, sg ++ [zS code k rq rq.mark], b8, c8, r8⟩ ⟨hlt, hZ' _ hm3, hg8' ()⟩ (by simp only; omega) (by repeat (first|exact .nil|refine .cons rfl (by first|rfl|(congr 1; done)|exact congrArg _ (by omega)|(simp; done)) ?_)) (.drop (.drop (.keep (by rw [atP_end]) (msub_right _ _))))
 | false =>
  repeat (first|refine lVa rfl rfl (by first|exact pEv rfl|exact vLd rfl (by repeat constructor) rfl (by rfl)|fail) ?_|refine lNi ?_|refine cRg ?_|refine xTh ?_|refine rSt rfl rfl rfl rfl rfl rfl rfl (by repeat constructor) (by rfl) ?_|refine r_buildSlice rfl rfl rfl rfl rfl rfl (by rfl) (fun _ => ?_)|refine c_true rfl ?_|refine l_dec_t rfl rfl rfl rfl rfl (by first|omega|fail) ?_|fail)
  refine r_appendZ (f := sgE) (e := 52) (sz := 14) (xs := sg) (ys := [zS code k rq 3]) (m := 1) rfl rfl rfl rfl rfl rfl rfl (.inr ⟨_, 0, rfl, news_own (by repeat constructor)⟩) (perm_tl (X := [_, _, _]) (G := Bs.map yB)) (hgs' ()) sgE_rows rfl rfl (by omega) (by unfold maxLen; omega) (fun b8 c8 r8 hg8 => ?_)
  have hg8' := fun (_ : Unit) => hg8
  clear hg8
  repeat (first|refine lVa rfl rfl (by first|exact v_add rfl rfl (by omega) (by omega)|exact pEv rfl|fail) ?_|refine lNi ?_|refine cRg ?_|refine xTh ?_|refine x_block ?_|fail)
  refine x_perm List.perm_append_comm ?_
  exact x_back ⟨k + 1, sg ++ [zS code k rq 3], b8, c8, r8⟩ ⟨hlt, hZ' _ ⟨by decide, by decide⟩, hg8' ()⟩ (by simp only; omega) (by repeat (first|exact .nil|refine .cons rfl (by first|rfl|(congr 1; done)|exact congrArg _ (by omega)|(simp; done)) ?_)) (.drop (.drop (.keep (by rw [atP_end]) (msub_right _ _))))
end R41
end Go.Proofs
