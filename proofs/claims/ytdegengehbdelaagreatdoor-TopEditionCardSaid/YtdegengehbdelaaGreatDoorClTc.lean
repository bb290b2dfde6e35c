/- Editions: lists that are equal, Check, walked. -/
import Derived.Test.YtdegengehbdelaaGreatDoorSfI
import Derived.Test.YtdegengehbdelaaGreatDoorClE0
set_option maxRecDepth 100000
set_option maxHeartbeats 400000000
set_option linter.unusedSectionVars false
set_option linter.unusedVariables false
set_option linter.unusedSimpArgs false
namespace Go.Proofs
open Go.RowKit Go.Kin Go.Kin.Se Go.Kin.Cl
namespace R41
theorem equal63_calls (A B : Option Addr) (ca cb : Nat) (l : List Int) (w : World) (hA : Kin.At w A 1 (l.map inE)) (hB : Kin.At w B 1 (l.map inE)) (hl : l.length <= 100000) :
  Calls Tryz.prog 63 ⟨[.slice A l.length ca, .slice B l.length cb]⟩ w fun e w' => e = .returned (.bool true) /\ Below w.heap.size w w' := by
 refine fEn Tryz.func63 rfl Tryz.ntmps63 rfl rfl (sWn w) ?_
 repeat (first|refine lVa rfl rfl (by first|exact pEv rfl|fail) ?_|refine lNi ?_|refine cRg ?_|refine cSq ?_|refine xTh ?_|refine c_dec_f rfl (by first|omega|exact fun h => h rfl|fail) ?_|refine cBl ?_|refine cSk ?_|fail)
 refine c_loop (ι := Nat) (fun k => k <= l.length) (fun k => [(0, .slice A l.length ca), (1, .slice B l.length cb), (12, .int .i64 l.length), (13, .int .i64 k)]) (fun _ => []) (fun k => l.length - k) 0 (Nat.zero_le _) (by repeat (first|exact .nil|refine .cons rfl (by first|rfl|(congr 1; done)|exact congrArg _ (by omega)|(simp; done)) ?_)) (by repeat (first|exact .nil|refine .keep (by first|rfl|assumption) ?_|refine .drop ?_|exact MSub.refl _)) ?_
 intro k hk
 by_cases hlt : k < l.length
 ·obtain ⟨x, hx⟩ : ∃ x, l[k]? = some x := ⟨_, List.getElem?_eq_getElem hlt⟩
  obtain ⟨ba, oa, rfl, hca⟩ := hA k (inE x) (by rw [List.getElem?_map, hx]; rfl)
  obtain ⟨bb, ob, rfl, hcb⟩ := hB k (inE x) (by rw [List.getElem?_map, hx]; rfl)
  have y1 := ext_of hca
  have y2 := ext_of hcb
  rw [Nat.mul_one] at y1 y2
  repeat (first|refine lVa rfl rfl (by first|exact v_add rfl rfl (by omega) (by omega)|exact pEv rfl|fail) ?_|refine lNi ?_|refine cRg ?_|refine cSq ?_|refine xTh ?_|refine c_dec_t rfl (by first|omega|fail) ?_|refine c_dec_f rfl (by first|omega|exact fun h => h rfl|fail) ?_|refine cBl ?_|refine cSk ?_|refine x_block ?_|refine c_reads rfl (by decide +kernel) ?_|refine q_val rfl rfl (by first|exact pEv rfl|exact vL0 rfl (by assumption) rfl (by rfl)|exact v_index rfl rfl rfl rfl (by omega) (by omega) (by with_reducible first|exact idx2 _ _|fail)|fail) ?_|refine q_nil ?_|fail)
  exact x_back (k + 1) hlt (by omega) (by repeat (first|exact .nil|refine .cons rfl (by first|rfl|(congr 1; done)|exact congrArg _ (by omega)|(simp; done)) ?_)) (by repeat (first|exact .nil|refine .keep (by first|rfl|assumption) ?_|refine .drop ?_|exact MSub.refl _))
 ·have hke : k = l.length := by omega
  subst hke
  repeat (first|refine lVa rfl rfl (by first|exact pEv rfl|fail) ?_|refine lNi ?_|refine cRg ?_|refine cSq ?_|refine xTh ?_|refine c_dec_f rfl (by first|omega|fail) ?_|refine c_ret ?_|refine c_exit ?_|refine xTe ?_|refine xBs ?_|fail)
  exact x_ret rfl rfl (by repeat constructor) rfl (fun W hW => ⟨rfl, hW.below⟩)
theorem equal33_calls (A B : Option Addr) (ca cb : Nat) (l : List Int) (w : World) (hA : Kin.At w A 1 (l.map inE)) (hB : Kin.At w B 1 (l.map inE)) (hl : l.length <= 100000) :
  Calls Tryz.prog 33 ⟨[.slice A l.length ca, .slice B l.length cb]⟩ w fun e w' => e = .returned (.bool true) /\ Below w.heap.size w w' := by
 refine fEn Tryz.func33 rfl Tryz.ntmps33 rfl rfl (sWn w) ?_
 repeat (first|refine lVa rfl rfl (by first|exact pEv rfl|fail) ?_|refine lNi ?_|refine cRg ?_|refine cSq ?_|refine xTh ?_|fail)
 refine r_call rfl rfl rfl (fun W hW => equal63_calls A B ca cb l W (hA.sat hW) (hB.sat hW) hl) ?_
 repeat (first|refine lVa rfl rfl (by first|exact pEv rfl|fail) ?_|refine lNi ?_|refine xTh ?_|refine c_ret ?_|fail)
 exact x_ret rfl rfl (by repeat constructor) rfl (fun W hW => ⟨rfl, hW.below⟩)
theorem eqf32_calls (A B : Option Addr) (ca cb : Nat) (ra rb : List RV) (w : World) (hA : TabIn w A ra) (hB : TabIn w B rb) (he : ra.map RV.l = rb.map RV.l) (hl : ra.length <= 100000) (hm : ∀ v ∈ ra, v.l.length <= 100000) :
  Calls Tryz.prog 32 ⟨[.slice A ra.length ca, .slice B rb.length cb, .func (.func 33) ⟨[]⟩ ⟨[]⟩]⟩ w fun e w' => e = .returned (.bool true) /\ Below w.heap.size w w' := by
 have hle : rb.length = ra.length := by have := congrArg List.length he; rw [List.length_map, List.length_map] at this; exact this.symm
 obtain ⟨n, hn⟩ : ∃ n, ra.length = n := ⟨_, rfl⟩
 rw [hle]
 rw [hn] at hl hle ⊢
 refine fEn Tryz.func32 rfl Tryz.ntmps32 rfl rfl (sWn w) ?_
 repeat (first|refine lVa rfl rfl (by first|exact pEv rfl|fail) ?_|refine lNi ?_|refine cRg ?_|refine cSq ?_|refine xTh ?_|refine c_dec_f rfl (by first|omega|exact fun h => h rfl|fail) ?_|refine cBl ?_|refine cSk ?_|fail)
 refine c_loop (ι := Nat) (fun k => k <= n) (fun k => [(1, .slice B n cb), (2, .func (.func 33) ⟨[]⟩ ⟨[]⟩), (15, .slice A n ca), (16, .int .i64 n), (17, .int .i64 k)]) (fun _ => []) (fun k => n - k) 0 (Nat.zero_le _) (by repeat (first|exact .nil|refine .cons rfl (by first|rfl|(congr 1; done)|exact congrArg _ (by omega)|(simp; done)) ?_)) (by repeat (first|exact .nil|refine .keep (by first|rfl|assumption) ?_|refine .drop ?_|exact MSub.refl _)) ?_
 intro k hk
 by_cases hlt : k < n
 ·obtain ⟨x, hx⟩ : ∃ x, ra[k]? = some x := ⟨_, List.getElem?_eq_getElem (by omega)⟩
  obtain ⟨y, hy⟩ : ∃ y, rb[k]? = some y := ⟨_, List.getElem?_eq_getElem (by omega)⟩
  have hxy : x.l = y.l := by
   have h1 : (ra.map RV.l)[k]? = some x.l := by rw [List.getElem?_map, hx]; rfl
   rw [he, List.getElem?_map, hy] at h1
   exact (Option.some.inj h1).symm
  obtain ⟨ba, oa, rfl, hca⟩ := hA.ar k (rvE x) (by rw [List.getElem?_map, hx]; rfl)
  obtain ⟨bb, ob, rfl, hcb⟩ := hB.ar k (rvE y) (by rw [List.getElem?_map, hy]; rfl)
  have y1 := ext_of hca
  have y2 := ext_of hcb
  rw [Nat.mul_one] at y1 y2
  have hxm := List.mem_of_getElem? hx
  have hym := List.mem_of_getElem? hy
  have hxl := hm x hxm
  have hra := hA.row x hxm
  have hrb := hB.row y hym
  rw [<- hxy] at hrb y2
  repeat (first|refine lVa rfl rfl (by first|exact pEv rfl|exact vL0 rfl (by assumption) rfl (by rfl)|exact v_index rfl rfl rfl rfl (by omega) (by omega) (by with_reducible first|exact idx2 _ _|fail)|fail) ?_|refine lNi ?_|refine cRg ?_|refine cSq ?_|refine xTh ?_|refine c_dec_t rfl (by first|omega|fail) ?_|refine cBl ?_|refine cSk ?_|fail)
  refine r_callv rfl rfl rfl rfl rfl (fun W hW => equal33_calls x.A y.A x.cap y.cap x.l W (hra.sat hW) (hrb.sat hW) hxl) ?_
  repeat (first|refine lVa rfl rfl (by first|exact v_add rfl rfl (by omega) (by omega)|exact pEv rfl|fail) ?_|refine lNi ?_|refine cRg ?_|refine xTh ?_|refine c_false rfl ?_|refine cSk ?_|refine x_block ?_|fail)
  exact x_back (k + 1) hlt (by omega) (by repeat (first|exact .nil|refine .cons rfl (by first|rfl|(congr 1; done)|exact congrArg _ (by omega)|(simp; done)) ?_)) (by repeat (first|exact .nil|refine .keep (by first|rfl|assumption) ?_|refine .drop ?_|exact MSub.refl _))
 ·have hke : k = n := by omega
  subst hke
  repeat (first|refine lVa rfl rfl (by first|exact pEv rfl|fail) ?_|refine lNi ?_|refine cRg ?_|refine cSq ?_|refine xTh ?_|refine c_dec_f rfl (by first|omega|fail) ?_|refine c_ret ?_|refine c_exit ?_|refine xTe ?_|refine xBs ?_|fail)
  exact x_ret rfl rfl (by repeat constructor) rfl (fun W hW => ⟨rfl, hW.below⟩)
end R41
end Go.Proofs

set_option maxRecDepth 100000
set_option maxHeartbeats 400000000
namespace Go.Proofs
open Go.RowKit Go.Kin Go.Kin.Se Go.Kin.Cl
namespace R41
theorem make10_neg (A : Option Addr) (cap : Nat) (rows : List RV) (m : Nat) (bA cA : Nat) (cl : List Nat) (t : Tr) (no : Int) (w : World) (hA : TabIn w A rows) (hC : cl ≠ [] -> Kin.At w (some ⟨bA, 0, none⟩) 1 (cl.map nE)) (hg : Glob w) (hO : OkTab rows m) (hT : OkTr rows.length cl t) (hk : chkB rows.length cl = true)
  (hroot : ∀ l r, t = .nd l r -> t.st ∈ cl) (hno : no < 0) :
  Calls Tryz.prog 10 ⟨[.slice A rows.length cap, .int .i64 no, gSl cl bA cA, .slice none 0 0]⟩ w fun e w' => e = .returned (.tuple ⟨[.agg ⟨[.int .i64 0, .slice none 0 0, .slice none 0 0, .slice none 0 0]⟩, .int .i64 430]⟩) /\ Below w.heap.size w w' := by
 obtain ⟨Ac, kc, hAc, hAt⟩ : ∃ Ac kc, gSl cl bA cA = .slice Ac cl.length kc /\ Kin.At w Ac 1 (cl.map nE) := by
  by_cases hl : cl = []
  ·subst hl; exact ⟨none, 0, rfl, fun i r hr => by simp at hr⟩
  ·exact ⟨_, _, gSl_ne hl, hC hl⟩
 have h25 := fun W (hW : Below w.heap.size w W) => roots25_calls A cap rows m Ac kc cl t W (hA.later hW) (hAt.later hW) (hg.later hW) hO hT hk hroot
 rw [hAc]
 refine fEn Tryz.func10 rfl Tryz.ntmps10 rfl rfl (sWn w) ?_
 repeat (first|refine lVa rfl rfl (by first|exact pEv rfl|fail) ?_|refine lNi ?_|refine cRg ?_|refine cSq ?_|refine xTh ?_|refine r_alloc rfl rfl rfl (by first|exact aggL|fail) (fun _ => ?_)|fail)
 rename_i b8
 refine r_callF (pre := []) (ι := RzI (rtsL rows t m)) (v := RzI.v) (post := RzI.m) rfl rfl rfl (.refl _) (fun W hW _ _ => h25 W hW.below) ?_
 rintro ⟨⟨es, bl, c, r⟩, hls, hok, hgr⟩
 simp only [RzI.v, RzI.m] at hls hok hgr ⊢
 obtain ⟨Ae, ke, hAe⟩ := gSl_len (l := es) (b := bl) (cap := c)
 rw [hAe]
 refine l_perm List.perm_append_comm ?_
 repeat (first|refine lVa rfl rfl (by first|exact pEv rfl|exact vLd rfl (by repeat constructor) rfl (by rfl)|fail) ?_|refine lNi ?_|refine cRg ?_|refine cSq ?_|refine xTh ?_|refine l_skip rfl rfl ?_|refine rSt rfl rfl rfl rfl rfl rfl rfl (by repeat constructor) (by rfl) ?_|refine c_true rfl ?_|refine c_false rfl ?_|refine cSk ?_|refine c_ret ?_|refine xTr ?_|refine l_dec_t rfl rfl rfl rfl rfl (by first|omega|fail) ?_|fail)
 exact x_ret rfl rfl (by repeat constructor) rfl (fun W hW => ⟨rfl, hW.below⟩)
theorem check34_calls (A : Option Addr) (cap : Nat) (rows : List RV) (m : Nat) (bA cA bR cR : Nat) (cl : List Nat) (t : Tr) (no : Int) (w : World) (hA : TabIn w A rows) (hC : cl ≠ [] -> Kin.At w (some ⟨bA, 0, none⟩) 1 (cl.map nE)) (hR : rdL rows t m ≠ [] -> Kin.At w (some ⟨bR, 0, none⟩) 1 ((rdL rows t m).map inE)) (hg : Glob w) (hO : OkTab rows m) (hT : OkTr rows.length cl t) (hk : chkB rows.length cl = true)
  (hroot : ∀ l r, t = .nd l r -> t.st ∈ cl) (hno : 0 <= no /\ no <= 1048576) :
  Calls Tryz.prog 34 ⟨[.slice A rows.length cap, .agg ⟨[.int .i64 no, gSl cl bA cA, .slice none 0 0, gSl (rdL rows t m) bR cR]⟩]⟩ w fun e w' => e = .returned (.int .i64 0) /\ Below w.heap.size w w' := by
 have m64 := hO.m64
 have h10 := fun W (hW : Below w.heap.size w W) => make10_calls A cap rows m bA cA cl t no W (hA.later hW) (fun h => (hC h).later hW) (hg.later hW) hO hT hk hroot hno
 have hrl : (rdL rows t m).length = m := rdL_len
 obtain ⟨rd, hrd⟩ : ∃ rd, rdL rows t m = rd := ⟨_, rfl⟩
 rw [hrd] at h10 hrl hR ⊢
 obtain ⟨Ac, kc, hAc⟩ := gSl_len (l := cl) (b := bA) (cap := cA)
 obtain ⟨Ar, kr, hAr, hRt⟩ : ∃ Ac kc, gSl rd bR cR = .slice Ac rd.length kc /\ Kin.At w Ac 1 (rd.map inE) := by
  by_cases hl : rd = []
  ·subst hl; exact ⟨none, 0, rfl, fun i r hr => by simp at hr⟩
  ·exact ⟨_, _, gSl_ne hl, hR hl⟩
 rw [hAc] at h10 ⊢
 rw [hAr]
 refine fEn Tryz.func34 rfl Tryz.ntmps34 rfl rfl (sWn w) ?_
 repeat (first|refine lVa rfl rfl (by first|exact pEv rfl|exact vLd rfl (by repeat constructor) rfl (by rfl)|fail) ?_|refine lNi ?_|refine cRg ?_|refine cSq ?_|refine xTh ?_|refine r_box rfl rfl rfl rfl (fun _ => ?_)|fail)
 refine r_callF (pre := []) (ι := EdI cl rd) (v := fun i => .tuple ⟨[i.a no, .int .i64 0]⟩) (post := fun i => i.m) rfl rfl rfl (.refl _) (fun W hW _ _ => h10 W hW.below) ?_
 rintro ⟨b1, c1, r1, b2, c2, r2, g1, g2⟩
 simp only [EdI.a, EdI.m]
 obtain ⟨A1, k1, hA1⟩ := gSl_len (l := cl) (b := b1) (cap := c1)
 obtain ⟨A2, k2, hA2⟩ := gSl_len (l := rd) (b := b2) (cap := c2)
 rw [hA1, hA2]
 refine l_perm List.perm_append_comm ?_
 repeat (first|refine lVa rfl rfl (by first|exact pEv rfl|exact vLd rfl (by repeat constructor) rfl (by rfl)|fail) ?_|refine lNi ?_|refine cRg ?_|refine cSq ?_|refine xTh ?_|refine r_alloc rfl rfl rfl (by first|exact aggL|fail) (fun _ => ?_)|refine rSt rfl rfl rfl rfl rfl rfl rfl (by repeat constructor) (by rfl) ?_|refine c_false rfl ?_|refine cSk ?_|fail)
 refine r_call rfl rfl rfl (fun W hW => equal33_calls Ar A2 kr k2 rd W (hRt.later hW.below) ?_ (by omega)) ?_
 ·obtain ⟨A3, k3, q1, q2⟩ := at_gM (cap := c2) (l := rd) (b := b2) (rest := r2) (f := inE) (T := 3) (sz := 1) hW (fun p hp => by simp [hp]) (fun _ => rfl)
  rw [hA2] at q1
  cases q1
  exact q2
 repeat (first|refine lVa rfl rfl (by first|exact pEv rfl|fail) ?_|refine lNi ?_|refine cRg ?_|refine cSq ?_|refine xTh ?_|refine c_false rfl ?_|refine cSk ?_|refine c_ret ?_|fail)
 exact x_ret rfl rfl (by repeat constructor) rfl (fun W hW => ⟨rfl, hW.below⟩)
end R41
end Go.Proofs

namespace Go.Kin.Cl
def nz (l : List Int) : List Int := l.filter fun c => decide (c ≠ 0)
theorem nz_app (l m : List Int) : nz (l ++ m) = nz l ++ nz m := List.filter_append ..
theorem nz_pad (l : List Int) (w : Nat) : nz (padL l w) = nz l := by
 unfold padL
 rw [nz_app]
 have : nz (List.replicate (w - l.length) 0) = [] := by unfold nz; rw [List.filter_eq_nil_iff]; intro x hx; rw [List.eq_of_mem_replicate hx]; decide
 rw [this, List.append_nil]
theorem nz_all {l : List Int} (h : ∀ c ∈ l, c ≠ 0) : nz l = l := by unfold nz; rw [List.filter_eq_self]; intro c hc; exact decide_eq_true (h c hc)
/-- what is left of a row without its zeros -/
def nzG (sg : Nat -> List Int) (tp : Nat -> Int) : Nat -> List Int
 | 0 => nz (sg 0)
 | n + 1 => nz (sg 0) ++ nz [tp 0] ++ nzG (fun k => sg (k + 1)) (fun k => tp (k + 1)) n
/-- the same from its end -/
theorem nzG_snoc : ∀ (n : Nat) (sg : Nat -> List Int) (tp : Nat -> Int) (l : List Int), (∃ P : List Int, nzG sg tp n = P ++ nz (sg n) /\ nzG sg tp (n + 1) = P ++ nz (sg n) ++ nz [tp n] ++ nz (sg (n + 1)))
 | 0, sg, tp, _ => ⟨[], by simp [nzG], by simp [nzG]⟩
 | n + 1, sg, tp, l => by
  obtain ⟨P, h1, h2⟩ := nzG_snoc n (fun k => sg (k + 1)) (fun k => tp (k + 1)) l
  refine ⟨nz (sg 0) ++ nz [tp 0] ++ P, ?_, ?_⟩
  ·rw [nzG, h1]; simp
  ·rw [nzG, h2]; simp
theorem nz_row (wd : Nat -> Nat) (sg : Nat -> List Int) (tp : Nat -> Int) : ∀ n : Nat, nz (rowP wd sg tp n) ++ nz (sg n) = nzG sg tp n
 | 0 => by simp [rowP, nzG, nz]
 | n + 1 => by
  obtain ⟨P, h1, h2⟩ := nzG_snoc n sg tp []
  have h3 := nz_row wd sg tp n
  rw [h1] at h3
  rw [h2, <- h3, rowP, nz_app, nz_app, nz_pad]
  simp
theorem nz_rowL (wd : Nat -> Nat) (sg : Nat -> List Int) (tp : Nat -> Int) (n : Nat) : nz (rowL wd sg tp n) = nzG sg tp n := by
 rw [rowL, nz_app, nz_pad, nz_row]
theorem nzG_al {a b : List Int} {m : List Mv} {c : Int} (h : Al a b m c) : nzG (alo m b) (bsc m b) a.length = nz b := by
 induction h with
 | nil => rfl
 | @both x y a b m c h ih =>
  rw [List.length_cons, nzG]
  show nz [] ++ nz [y] ++ nzG (alo m b) (bsc m b) a.length = _
  rw [ih, <- nz_app, <- nz_app]; rfl
 | @left x a b m c h ih =>
  rw [List.length_cons, nzG]
  show nz [] ++ nz [0] ++ nzG (alo m b) (bsc m b) a.length = _
  rw [ih]; rfl
 | @right y a b m c h ih =>
  have e : ∀ (n : Nat), nzG (alo (.right :: m) (y :: b)) (bsc (.right :: m) (y :: b)) n = nz [y] ++ nzG (alo m b) (bsc m b) n := by
   intro n
   cases n with
   | zero => show nz ([y] ++ alo m b 0) = _; rw [nz_app]; rfl
   | succ n =>
    rw [nzG, nzG]
    show nz ([y] ++ alo m b 0) ++ nz [bsc m b 0] ++ nzG (fun k => alo m b (k + 1)) (fun k => bsc m b (k + 1)) n = _
    rw [nz_app, List.append_assoc, List.append_assoc, List.append_assoc]
  rw [e, ih, <- nz_app]; rfl
/-! ## Costs -/
def lcC (x c : Int) : Int := if x ≠ 0 /\ c ≠ 0 then bes x c else if x ≠ 0 ∨ c ≠ 0 then 2 else 0
def cR : List Int -> List Int -> Int
 | x :: l, y :: l' => lcC x y + cR l l'
 | _, _ => 0
/-! ## The table -/
theorem al_same : ∀ a : List Int, Al a a (a.map fun _ => .both) 0
 | [] => .nil
 | x :: a => by have := Al.both (x := x) (y := x) (al_same a); rw [bes_self, Int.add_zero] at this; exact this
theorem alo_same : ∀ (a : List Int) (k : Nat), alo (a.map fun _ => .both) a k = []
 | [], _ => rfl
 | _ :: _, 0 => rfl
 | x :: a, k + 1 => alo_same a k
theorem bsc_same : ∀ (a : List Int) (k : Nat), bsc (a.map fun _ => .both) a k = a.getD k 0
 | [], _ => by simp [bsc]
 | _ :: _, 0 => rfl
 | x :: a, k + 1 => by show bsc (a.map fun _ => .both) a k = _; rw [bsc_same a k]; simp
variable {ls : List (List Int)}
/-- each row is that of an alignment -/
theorem rowI_al (i : Nat) : ∃ m, Al (txt ls) (li ls i) m (ac (txt ls) (li ls i)) /\ sgI ls i = alo m (li ls i) /\ tpI ls i = bsc m (li ls i) := by
 by_cases h : i = 0
 ·refine ⟨(txt ls).map fun _ => .both, ?_, ?_, ?_⟩
  ·rw [h, li_0, ac_self]; exact al_same _
  ·funext k; rw [h, li_0, alo_same, sgI_0]
  ·funext k; rw [h, li_0, bsc_same, tpI_0]
 ·exact ⟨best (txt ls) (li ls i), best_al _ _, funext (sgI_alo h), funext (tpI_bsc h)⟩
theorem rowI_nz {i : Nat} (h : ∀ c ∈ li ls i, c ≠ 0) : nz (rowI ls i) = li ls i := by
 obtain ⟨m, h1, h2, h3⟩ := rowI_al (ls := ls) i
 rw [rowI, nz_rowL, h2, h3, nzG_al h1, nz_all h]
/-! ## No locus is empty -/
end Go.Kin.Cl
