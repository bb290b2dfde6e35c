/- Rooms: clones, and unions of lists of numbers, walked. -/
import Derived.Test.YtajnkdgbpffinaaGreatRmB
set_option maxRecDepth 100000
set_option maxHeartbeats 400000000
set_option linter.unusedSectionVars false
set_option linter.unusedVariables false
set_option linter.unusedSimpArgs false
namespace Go.Proofs
open Go.RowKit Go.Kin Go.Kin.Cl
namespace R41
/-- a list of numbers: nil, or somewhere -/
structure InZ (w : World) (A : Option Addr) (cap : Nat) (l : List Int) : Prop where
 at' : Kin.At w A 1 (l.map inE)
 nil : l = [] -> A = none /\ cap = 0
theorem InZ.later {w W : World} {A : Option Addr} {cap : Nat} {l : List Int} (h : InZ w A cap l) (hB : Under w.heap.size w W) : InZ W A cap l := ⟨h.at'.later hB, h.nil⟩
theorem InZ.ext {w : World} {A : Option Addr} {cap : Nat} {l : List Int} (h : InZ w A cap l) (hne : l ≠ []) : ∃ b o, A = some ⟨b, o, none⟩ /\ Ext w (base w) b o (l.map inE).flatten := by
 obtain ⟨b, o, h1, h2, h3⟩ := at_drop (i := 0) h.at' (by decide) (fun r hr => by obtain ⟨s, _, rfl⟩ := List.mem_map.1 hr; rfl) (by rw [List.length_map]; exact List.length_pos_iff.2 hne)
 refine ⟨b, o, h1, h2, fun j v hj => ?_⟩
 have := h3 0 (Nat.le_refl _) j v (by rw [List.drop_zero]; exact hj)
 rwa [Nat.zero_mul, Nat.add_zero] at this
theorem inE_one (l : List Int) : allOne ((l.map inE).flatten) = true := by
 rw [flZ_eq]
 induction l with
 | nil => rfl
 | cons x l ih => exact ih
theorem clone58_calls (A : Option Addr) (cap : Nat) (l : List Int) (w : World) (hA : InZ w A cap l) (hl : l.length <= 100000) :
  Calls Tryz.prog 58 ⟨[.slice A l.length cap]⟩ w (FrQ [] (fun i : { i : Nat × Nat × List Value // gOK inE 1 l i.2.1 i.2.2 } => gSl l i.1.1 i.1.2.1) (fun i => gM inE 3 l i.1.1 i.1.2.2) w) := by
 have hsat := frQ_start (W := w) (pre := []) (by simp) fun p hp => by cases hp
 by_cases hne : l = []
 ·subst hne
  obtain ⟨rfl, rfl⟩ := hA.nil rfl
  refine fEn Tryz.func58 rfl Tryz.ntmps58 rfl rfl hsat ?_
  repeat (first|refine lVa rfl rfl (by first|exact pEv rfl|fail) ?_|refine lNi ?_|refine cRg ?_|refine cSq ?_|refine xTh ?_|refine c_true rfl ?_|refine c_ret ?_|refine xTr ?_|refine lVa rfl rfl (v_eqNilS0 rfl rfl) ?_|fail)
  exact x_ret rfl rfl (by repeat constructor) rfl (fun W hW => ⟨⟨(0, 0, []), fun h => absurd rfl h⟩, rfl, hW⟩)
 obtain ⟨b, o, rfl, x0⟩ := hA.ext hne
 have x1 : Ext w (allBut w (List.map (·.1) ([] : List (Nat × Obj)))) _ _ _ := ⟨⟨x0.dom, by simp⟩, x0.cell⟩
 refine fEn Tryz.func58 rfl Tryz.ntmps58 rfl rfl hsat ?_
 repeat (first|refine lVa rfl rfl (by first|exact pEv rfl|fail) ?_|refine lNi ?_|refine cRg ?_|refine cSq ?_|refine xTh ?_|refine r_buildSlice rfl rfl rfl rfl rfl rfl (by rfl) (fun _ => ?_)|refine c_false rfl ?_|refine cSk ?_|refine lVa rfl rfl (v_eqNilS rfl rfl) ?_|fail)
 refine r_append (xs := []) (rest := []) (n := 0) (cap := 0) (ys := (l.map inE).flatten) rfl rfl rfl rfl rfl rfl (news_ext x1) Rem.head ⟨rfl, rfl, Nat.le_refl _, Nat.zero_le _⟩ (inE_rows l) (inE_one l) rfl (by omega) (by unfold maxLen; omega) (fun b' c' r' hg => ?_)
 rw [Nat.zero_add] at hg ⊢
 rw [List.nil_append] at hg ⊢
 have hg' := fun (_ : Unit) => hg
 clear hg
 repeat (first|refine lVa rfl rfl (by first|exact pEv rfl|fail) ?_|refine lNi ?_|refine xTh ?_|refine c_ret ?_|fail)
 refine x_ret rfl rfl (by repeat constructor) rfl (fun W hW => ⟨⟨(b', c', r'), fun _ => hg' ()⟩, by simp only [gSl_ne hne], by simp only [gM_ne hne]; exact hW.mono (MSub.sub (by repeat (first|exact .nil|refine .keep (by first|rfl|assumption) ?_|refine .drop ?_|exact MSub.refl _)))⟩)
def unZ (a b : List Int) : List Int := Lib.compact (srtZ (a ++ b))
theorem union26_calls (A : Option Addr) (ca : Nat) (a : List Int) (B : Option Addr) (cb : Nat) (b : List Int) (w : World) (hA : InZ w A ca a) (hB : InZ w B cb b) (ha : a.length <= 500) (hb : b.length <= 500) :
  Calls Tryz.prog 26 ⟨[.slice A a.length ca, .slice B b.length cb]⟩ w (FrQ [] (fun i : Nat × Nat × List Value => gSl (unZ a b) i.1 i.2.1) (fun i => gM inE 3 (unZ a b) i.1 i.2.2) w) := by
 have hsat := frQ_start (W := w) (pre := []) (by simp) fun p hp => by cases hp
 have hbl : ∀ {mem : List (Nat × Obj)} {W : World}, SatW w (allBut w (List.map (·.1) ([] : List (Nat × Obj)))) noJ mem W -> Under w.heap.size w W := fun hW => hW.same.below (Nat.le_refl _) fun k hk => ⟨hk, by simp⟩
 have hcl := fun W (h : Under w.heap.size w W) => clone58_calls A ca a W (hA.later h) (by omega)
 have hnew : ∀ mem, NewsG ⟨Fence.wide, 0, [], w, allBut w (List.map (·.1) ([] : List (Nat × Obj))), noJ⟩ mem B b.length ((b.map inE).flatten) := fun mem => by
  by_cases hne : b = []
  ·subst hne; exact .inl ⟨rfl, rfl⟩
  ·obtain ⟨b1, o1, h1, x0⟩ := hB.ext hne
   exact .inr ⟨b1, o1, h1, news_ext ⟨⟨x0.dom, by simp⟩, x0.cell⟩⟩
 have hu : unZ a b = Lib.compact (srtZ (a ++ b)) := rfl
 have hlen : (a ++ b).length = a.length + b.length := List.length_append
 refine fEn Tryz.func26 rfl Tryz.ntmps26 rfl rfl hsat ?_
 clear hA hB
 repeat ((fail_if_success refine c_probe (id := 1) ?_); (fail_if_success refine c_probe1 (id := 1) ?_); first|refine lVa rfl rfl (by first|exact pEv rfl|fail) ?_|refine lNi ?_|refine cRg ?_|refine cSq ?_|refine xTh ?_|fail)
 refine cSq ?_
 repeat (first|refine lVa rfl rfl (by first|exact pEv rfl|fail) ?_|refine cRg ?_|fail)
 refine r_callF (pre := []) rfl rfl rfl (List.Perm.refl _) (fun W hW _ _ => hcl W (hbl hW)) ?_
 rintro ⟨⟨b1, c1, r1⟩, hg⟩
 simp only [List.append_nil] at hg ⊢
 have hg' := fun (_ : Unit) => hg
 clear hg hcl
 repeat (first|refine lVa rfl rfl (by first|exact pEv rfl|fail) ?_|fail)
 refine r_appendZ (f := inE) (e := 3) (sz := 1) (xs := a) (ys := b) (m := b.length) rfl rfl rfl rfl rfl rfl rfl (hnew _) (by rw [List.append_nil]) (hg' ()) inE_rows (inE_one b) rfl (by omega) (by unfold maxLen; omega) (fun b8 c8 r8 hg8 => ?_)
 have hg8' := fun (_ : Unit) => hg8
 clear hg8 hg'
 simp only [List.append_nil]
 obtain ⟨L, hL⟩ : ∃ L, a ++ b = L := ⟨_, rfl⟩
 rw [hL] at hu hlen hg8' ⊢
 rw [hu]
 by_cases hne : L = []
 ·subst hne
  rw [srtZ_nil, compact_nil]
  repeat ((fail_if_success refine c_probe (id := 2) ?_); (fail_if_success refine c_probe1 (id := 2) ?_); first|refine lVa rfl rfl (by first|exact pEv rfl|fail) ?_|refine lNi ?_|refine xTh ?_|fail)
  refine cSq ?_
  repeat (first|refine lVa rfl rfl (by first|exact pEv rfl|fail) ?_|refine cRg ?_|fail)
  refine r_call rfl rfl rfl (fun W hW => sort59_none none 0 W) ?_
  repeat (first|refine lVa rfl rfl (by first|exact pEv rfl|fail) ?_|refine lNi ?_|refine cRg ?_|refine cSq ?_|refine xTh ?_|fail)
  refine r_call rfl rfl rfl (fun W hW => compact60_none none 0 W) ?_
  repeat (first|refine lVa rfl rfl (by first|exact pEv rfl|fail) ?_|refine lNi ?_|refine xTh ?_|refine c_ret ?_|fail)
  exact x_ret rfl rfl (by repeat constructor) rfl (fun W hW => ⟨(0, 0, []), rfl, hW⟩)
 have hcn : Lib.compact (srtZ L) ≠ [] := compact_ne fun e => hne (List.length_eq_zero_iff.1 (by rw [<- srtZ_len, e]; rfl))
 have hcap := (hg8' () hne).le
 have hcp := fun (W : World) hb => compact60_calls (srtZ L) b8 c8 r8 W hb (by rw [srtZ_len]; omega) (by rw [srtZ_len]; exact hcap)
 rw [srtZ_len] at hcp
 rw [gSl_ne hne, gM_ne hne, flZ_eq]
 clear hg8' hcap
 repeat ((fail_if_success refine c_probe (id := 2) ?_); (fail_if_success refine c_probe1 (id := 2) ?_); first|refine lVa rfl rfl (by first|exact pEv rfl|fail) ?_|refine lNi ?_|refine xTh ?_|fail)
 refine cSq ?_
 repeat (first|refine lVa rfl rfl (by first|exact pEv rfl|fail) ?_|refine cRg ?_|fail)
 refine r_callF rfl rfl rfl (.refl _) (fun W hW _ hp => sort59_calls L b8 c8 r8 W (hp _ List.mem_cons_self) (by omega)) (fun _ => ?_)
 repeat (first|refine lVa rfl rfl (by first|exact pEv rfl|fail) ?_|refine lNi ?_|refine cRg ?_|refine cSq ?_|refine xTh ?_|fail)
 refine r_callF rfl rfl rfl (.refl _) (fun W hW _ hp => hcp W (hp _ List.mem_cons_self)) (fun _ => ?_)
 repeat (first|refine lVa rfl rfl (by first|exact pEv rfl|fail) ?_|refine lNi ?_|refine xTh ?_|refine c_ret ?_|fail)
 exact x_ret rfl rfl (by repeat constructor) rfl (fun W hW => ⟨(b8, c8, List.replicate (L.length - (Lib.compact (srtZ L)).length) (.int .i64 0) ++ r8), by simp only [gSl_ne hcn], by simp only [gM_ne hcn, flZ_eq]; exact hW⟩)
end R41
end Go.Proofs

set_option maxRecDepth 100000
set_option maxHeartbeats 400000000
namespace Go.Proofs
open Go.RowKit Go.Kin Go.Kin.Cl
namespace R41
theorem compact_incr {l : List Int} (h : l.Pairwise (· < ·)) : Lib.compact l = l := by
 unfold Lib.compact Lib.compactUpTo
 have h1 : (List.range l.length).filter (Lib.keeps l.toArray) = List.range l.length := by
  refine List.filter_eq_self.2 fun j hj => ?_
  have hj := List.mem_range.1 hj
  unfold Lib.keeps
  by_cases h0 : j = 0
  ·simp [h0]
  ·have := List.pairwise_iff_getElem.1 h (j - 1) j (by omega) hj (by omega)
   rw [getElem!_pos l.toArray j (by simpa using hj), getElem!_pos l.toArray (j - 1) (by simp; omega)]
   simp only [List.getElem_toArray, decide_eq_true_eq]
   omega
 rw [h1]
 refine List.ext_getElem (by simp) fun i h1 h2 => ?_
 simp only [List.getElem_map, List.getElem_range]
 rw [getElem!_pos l.toArray i (by simpa using h2)]
 simp
theorem srtZ_incr {l : List Int} (h : l.Pairwise (· < ·)) : srtZ l = l := by
 unfold srtZ
 exact List.mergeSort_of_pairwise (h.imp fun h => by simp; omega)
theorem unZ_incr {a b : List Int} (h : (a ++ b).Pairwise (· < ·)) : unZ a b = a ++ b := by unfold unZ; rw [srtZ_incr h, compact_incr h]
structure ClT where
 k : Nat
theorem closure57_calls (B : Option Addr) (capB : Nat) (ps : List (Int × Int)) (A : Option Addr) (cap : Nat) (v : List Int) (w : World) (hB : Kin.At w B 19 (ps.map pE)) (hps : ps.length <= 512) (hid : (ps.map (·.1)).Nodup) (hA : InZ w A cap v) (hv : v.length <= 500) (hinc : v.Pairwise (· < ·)) (hin : ∀ x ∈ v, x ∈ ps.map (·.1)) :
  Calls Tryz.prog 57 ⟨[.slice B ps.length capB, .slice A v.length cap]⟩ w fun e w' => ∃ i : Option Addr × Nat, e = .returned (.tuple ⟨[.slice i.1 v.length i.2, .int .i64 0]⟩) /\ Under w.heap.size w w' := by
 have hst := fun W (h : Under w.heap.size w W) => stands56_calls B capB ps W (hB.later h) hps hid
 obtain ⟨n, hn⟩ : ∃ n, v.length = n := ⟨_, rfl⟩
 obtain ⟨m, hm⟩ : ∃ m, ps.length = m := ⟨_, rfl⟩
 rw [hm] at hst hps ⊢
 rw [hn] at hv ⊢
 refine fEn Tryz.func57 rfl Tryz.ntmps57 rfl rfl (sWn w) ?_
 repeat ((fail_if_success refine c_probe (id := 3) ?_); (fail_if_success refine c_probe1 (id := 3) ?_); first|refine lVa rfl rfl (by first|exact pEv rfl|fail) ?_|refine lNi ?_|refine cRg ?_|refine cSq ?_|refine xTh ?_|refine c_dec_f rfl (by first|omega|exact fun h => h rfl|fail) ?_|refine cSk ?_|fail)
 refine cSq ?_
 repeat (first|refine lVa rfl rfl (by first|exact pEv rfl|fail) ?_|refine cRg ?_|fail)
 refine l_callF (ι := Nat) (v := fun bm => .map (some bm)) (mem' := []) (fun bm W W' => StW W' bm ps) rfl rfl rfl .nil (fun W hW => hst W hW.below) ?_
 intro bm W W' hW hBW hW' hS
 have hbl : ∀ {mem : List (Nat × Obj)} {V : World}, SatW W' (allBut W' (List.map (·.1) ([] : List (Nat × Obj)))) noJ mem V -> Under W'.heap.size W' V := fun hV => hV.same.below (Nat.le_refl _) fun k hk => ⟨hk, by simp⟩
 have hB1 : Under w.heap.size w W' := hW.below.trans (hBW.mono hW.below.size)
 have hfin : ∀ V, SatW W' (allBut W' (List.map (·.1) ([] : List (Nat × Obj)))) noJ [] V -> Under w.heap.size w V := fun V hV => hB1.trans ((hbl hV).mono hB1.size)
 have hA1 := hA.later hB1
 have hcl := fun V (h : Under W'.heap.size W' V) => clone58_calls A cap v V (hA1.later h) (by omega)
 have hinr := fun V (h : Under W'.heap.size W' V) => incr88_calls A cap v V (hA1.later h).at' (by omega) hinc
 rw [hn] at hcl hinr
 obtain ⟨S, hS1, hS2⟩ := hS
 have hDS : allBut W' (List.map (·.1) ([] : List (Nat × Obj))) bm := ⟨lt_of_heap hS1, by simp⟩
 clear hst hB hid
 repeat ((fail_if_success refine c_probe (id := 4) ?_); (fail_if_success refine c_probe1 (id := 4) ?_); first|refine lVa rfl rfl (by first|exact pEv rfl|fail) ?_|refine lNi ?_|refine xTh ?_|fail)
 refine cSq ?_
 repeat (first|refine lVa rfl rfl (by first|exact pEv rfl|fail) ?_|refine cRg ?_|fail)
 refine r_callF (pre := []) rfl rfl rfl (List.Perm.refl _) (fun V hV _ _ => hcl V (hbl hV)) ?_
 rintro ⟨⟨b1, c1, r1⟩, hg⟩
 simp only [List.append_nil] at hg ⊢
 have hun : ∀ V : World, SatW W' (allBut W' (List.map (·.1) ([] : List (Nat × Obj)))) noJ (gM inE 3 v b1 r1) V -> ∃ A2 c2, gSl v b1 c1 = .slice A2 n c2 /\ InZ V A2 c2 v := fun V hV => by
  cases hvv : v with
  | nil => exact ⟨none, 0, by rw [<- hn, hvv]; rfl, ⟨fun i cs hi => by simp at hi, fun _ => ⟨rfl, rfl⟩⟩⟩
  | cons x l =>
   rw [hvv] at hV
   exact ⟨_, _, by rw [<- hn, hvv]; rfl, ⟨at_own hV List.mem_cons_self (fun x => rfl), fun h => by cases h⟩⟩
 clear hcl hg
 repeat ((fail_if_success refine c_probe (id := 6) ?_); (fail_if_success refine c_probe1 (id := 6) ?_); first|refine lVa rfl rfl (by first|exact pEv rfl|fail) ?_|refine lNi ?_|refine cRg ?_|refine cSq ?_|refine xTh ?_|refine cBl ?_|fail)
 refine c_loop (ι := ClT) (fun s => s.k <= n) (fun s => [(0, .slice B m capB), (1, .slice A n cap), (4, gSl v b1 c1), (6, .map (some bm)), (17, .slice A n cap), (18, .int .i64 n), (19, .int .i64 s.k)]) (fun _ => gM inE 3 v b1 r1) (fun s => n - s.k) ⟨0⟩ (Nat.zero_le _) (by repeat (first|exact .nil|refine .cons rfl (by first|rfl|(congr 1; done)|exact congrArg _ (by omega)|(simp; done)) ?_)) (by repeat (first|exact .nil|refine .keep (by first|rfl|assumption) ?_|refine .drop ?_|exact MSub.refl _)) ?_
 rintro ⟨k⟩ hk
 simp only at hk ⊢
 by_cases hlt : k < n
 ·obtain ⟨x, hx⟩ : ∃ x, v[k]? = some x := ⟨_, List.getElem?_eq_getElem (by omega)⟩
  obtain ⟨b, o, rfl, hcS⟩ := hA1.at' k (inE x) (by rw [List.getElem?_map, hx]; rfl)
  have x0 := ext_of hcS
  rw [Nat.mul_one] at x0
  have x1 : Ext W' (allBut W' (List.map (·.1) ([] : List (Nat × Obj)))) _ _ _ := ⟨⟨x0.dom, by simp⟩, x0.cell⟩
  obtain ⟨p, hp, hpx⟩ := List.mem_map.1 (hin x (List.mem_of_getElem? hx))
  obtain ⟨be, g1, g2⟩ := hS2 p hp
  rw [hpx] at g1
  have hDe : allBut W' (List.map (·.1) ([] : List (Nat × Obj))) be := ⟨lt_of_heap g2, by simp⟩
  generalize gM inE 3 v b1 r1 = M0
  generalize gSl v b1 c1 = V0
  clear hx hcS x0 hun hinr hA1 hA
  repeat ((fail_if_success refine c_probe (id := 8) ?_); (fail_if_success refine c_probe1 (id := 8) ?_); first|refine lVa rfl rfl (by first|exact pEv rfl|exact vL0 rfl (by assumption) rfl (by rfl)|exact v_index rfl rfl rfl rfl (by omega) (by omega) (by with_reducible first|exact idx2 _ _|fail)|fail) ?_|refine lNi ?_|refine cRg ?_|refine cSq ?_|refine xTh ?_|refine c_dec_t rfl (by first|omega|fail) ?_|refine cBl ?_|refine cSk ?_|fail)
  refine cSq ?_
  repeat (first|refine lVa rfl rfl (v_imGetG (k := x) (s := S) (out := .map (some be)) (ok := false) rfl rfl rfl rfl rfl (.far hDS hS1) (by rw [g1])) ?_|refine lVa rfl rfl (v_eqNilM (P := Tryz.prog) (by exact Tryz.underlying114) rfl) ?_|refine lVa rfl rfl (by first|exact pEv rfl|fail) ?_|refine lNi ?_|refine cRg ?_|refine cSq ?_|refine xTh ?_|refine c_false rfl ?_|refine cSk ?_|fail)
  refine l_imRangeG (s := []) rfl rfl rfl rfl (.far hDe g2) (fun br => ?_)
  repeat ((fail_if_success refine c_probe (id := 11) ?_); (fail_if_success refine c_probe1 (id := 11) ?_); first|refine lNi ?_|refine xTh ?_|refine cBl ?_|fail)
  refine c_rounds 0 ?_
  refine cSq ?_
  refine cRg ?_
  refine l_imNextG (s := []) (seen := []) (mem' := fun s' => (br, itO be 0 s') :: M0) rfl rfl rfl (.far hDe g2) (fun _ => .head) (fun o => ?_)
  obtain ⟨o, ho⟩ := o
  cases o with
  | some j => exact absurd ho.1 (Nat.not_lt_zero _)
  | none =>
   simp only [nxV, nxS]
   repeat ((fail_if_success refine c_probe (id := 14) ?_); (fail_if_success refine c_probe1 (id := 14) ?_); first|refine lVa rfl rfl (by first|exact v_add rfl rfl (by omega) (by omega)|exact pEv rfl|fail) ?_|refine lNi ?_|refine cRg ?_|refine cSq ?_|refine xTh ?_|refine c_false rfl ?_|refine c_exit ?_|refine xTe ?_|refine x_block ?_|refine xBs ?_|fail)
   exact x_back ⟨k + 1⟩ hlt (by simp only; omega) (by repeat (first|exact .nil|refine .cons rfl (by first|rfl|(congr 1; done)|exact congrArg _ (by omega)|(simp; done)) ?_)) (.drop (.refl _))
 repeat ((fail_if_success refine c_probe (id := 15) ?_); (fail_if_success refine c_probe1 (id := 15) ?_); first|refine lVa rfl rfl (by first|exact pEv rfl|fail) ?_|refine lNi ?_|refine cRg ?_|refine cSq ?_|refine xTh ?_|refine c_dec_f rfl (by first|omega|fail) ?_|refine c_exit ?_|refine xTe ?_|refine xBs ?_|fail)
 refine cSq ?_
 repeat (first|refine lVa rfl rfl (by first|exact pEv rfl|fail) ?_|refine cRg ?_|refine cSq ?_|fail)
 refine r_call rfl rfl rfl (fun V hV => hinr V (hbl hV)) ?_
 clear hinr hA1 hA hin
 repeat ((fail_if_success refine c_probe (id := 17) ?_); (fail_if_success refine c_probe1 (id := 17) ?_); first|refine lVa rfl rfl (by first|exact pEv rfl|fail) ?_|refine lNi ?_|refine xTh ?_|refine c_false rfl ?_|refine cSk ?_|fail)
 repeat (first|refine lVa rfl rfl (by first|exact pEv rfl|fail) ?_|refine cRg ?_|refine cSq ?_|fail)
 refine l_callF (ι := Nat × Nat × List Value) (v := fun i => gSl (unZ v []) i.1 i.2.1) (mem' := []) (fun _ _ _ => True) rfl rfl rfl .nil (fun V hV => ?_) ?_
 ·obtain ⟨A2, c2, h1, h2⟩ := hun V hV
  rw [h1, <- hn]
  refine (union26_calls A2 c2 v none 0 [] V h2 ⟨fun i cs hi => by simp at hi, fun _ => ⟨rfl, rfl⟩⟩ (by omega) (by simp)).mono ?_
  rintro e V' ⟨j, e1, e2⟩
  exact ⟨j, e1, e2.same.below (Nat.le_refl _) fun k hk => ⟨hk, by simp⟩, trivial⟩
 rintro ⟨b2, c2, r2⟩ V V' hV hBV hV' -
 simp only
 rw [show unZ v [] = v by rw [unZ_incr (by rw [List.append_nil]; exact hinc), List.append_nil]]
 obtain ⟨A3, c3, h3⟩ := gSl_len (l := v) (b := b2) (cap := c2)
 rw [h3, hn]
 have hfin2 : Under w.heap.size w V' := (hfin V (hV.mono (List.nil_sublist _))).trans (hBV.mono (hfin V (hV.mono (List.nil_sublist _))).size)
 clear hun
 repeat (first|refine lVa rfl rfl (by first|exact pEv rfl|fail) ?_|refine lNi ?_|refine xTh ?_|refine c_ret ?_|fail)
 exact x_ret rfl rfl (by repeat constructor) rfl (fun X hX => ⟨(A3, c3), rfl, hfin2.trans ((hX.same.below (Nat.le_refl _) fun k hk => ⟨hk, by simp⟩).mono hfin2.size)⟩)
theorem version25_calls (B : Option Addr) (capB : Nat) (ps : List (Int × Int)) (A : Option Addr) (cap : Nat) (v : List Int) (w : World) (hB : Kin.At w B 19 (ps.map pE)) (hps : ps.length <= 512) (hid : (ps.map (·.1)).Nodup) (hA : InZ w A cap v) (hv : v.length <= 500) (hinc : v.Pairwise (· < ·)) (hin : ∀ x ∈ v, x ∈ ps.map (·.1)) :
  Calls Tryz.prog 25 ⟨[.slice B ps.length capB, .slice A v.length cap]⟩ w fun e w' => e = .returned (.int .i64 0) /\ Under w.heap.size w w' := by
 have hc := fun W (h : Under w.heap.size w W) => closure57_calls B capB ps A cap v W (hB.later h) hps hid (hA.later h) hv hinc hin
 obtain ⟨n, hn⟩ : ∃ n, v.length = n := ⟨_, rfl⟩
 obtain ⟨m, hm⟩ : ∃ m, ps.length = m := ⟨_, rfl⟩
 rw [hm, hn] at hc ⊢
 refine fEn Tryz.func25 rfl Tryz.ntmps25 rfl rfl (sWn w) ?_
 clear hB hA hin hinc hid
 repeat ((fail_if_success refine c_probe (id := 1) ?_); (fail_if_success refine c_probe1 (id := 1) ?_); first|refine lVa rfl rfl (by first|exact pEv rfl|fail) ?_|refine lNi ?_|refine cRg ?_|refine cSq ?_|refine xTh ?_|fail)
 refine cSq ?_
 repeat (first|refine lVa rfl rfl (by first|exact pEv rfl|fail) ?_|refine cRg ?_|fail)
 refine l_call (ι := Option Addr × Nat) (v := fun i => .tuple ⟨[.slice i.1 n i.2, .int .i64 0]⟩) (mem' := fun _ => []) rfl rfl rfl (fun W hW => (hc W hW.below).mono fun e W' h => ?_) ?_
 ·obtain ⟨i, h1, h2⟩ := h
  exact ⟨i, h1, hW.later h2⟩
 rintro ⟨A3, c3⟩
 repeat (first|refine lVa rfl rfl (by first|exact pEv rfl|fail) ?_|refine lNi ?_|refine cRg ?_|refine cSq ?_|refine xTh ?_|refine c_dec_f rfl (by first|omega|exact fun h => h rfl|fail) ?_|refine cSk ?_|refine c_ret ?_|fail)
 exact x_ret rfl rfl (by repeat constructor) rfl (fun W hW => ⟨rfl, hW.below⟩)
end R41
end Go.Proofs

namespace Go
open Go.RowKit
namespace Kin
section
variable {P : Program} {N : Nat} {c : Cx} {env : List (Nat × Value)} {mem : List (Nat × Obj)} {tt : List (TypeId × TI)}
 {ty : TypeId} {pos : String} {af : Array Edge} {g : Option (Nat × Bool)} {dd : Option Tmp}
theorem a_appendN [T : TT P tt] {t e m cx bx ox sz bt sz' bt' : Nat} {ke : TK} {z z' : Value} {x y : Operand} {ys : List Value}
  (hx : evOp env x = some (.slice none 0 0)) (hy : evOp env y = some (.slice (some ⟨bx, ox, none⟩) m cx)) (ht : look tt t = some ⟨.slice e, sz', bt', z'⟩) (hte : look tt e = some ⟨ke, sz, bt, z⟩) (hnews : News c mem bx ox ys)
  (hl : ys.length = m * sz) (hzl : Nat.beq (cellsL z).length sz = true) (hm0 : 0 < m) (hb : m * bt <= 140737488355328) (hm : m <= maxLen) :
  OpApp P N c env mem ⟨dd, .call ⟨.builtin .append, ⟨[x, y]⟩, ⟨[t, t]⟩⟩, ty, pos, af, g⟩ none sz m ys e := by
 have hu : P.underlying t = some (.slice e) := (TT.look (P := P) ht).1
 obtain ⟨_, inf, hi, hs, hbt, hz⟩ := TT.look (P := P) hte
 simp only at hs hz hbt
 have hzl := Nat.eq_of_beq_eq_true hzl
 refine ⟨rfl, fun a W ha hmm => ?_⟩
 have hap := run_append_nil (P := P) W t ty e inf z hu hi hz ⟨bx, ox, none⟩ m cx ys (by rw [hs]; exact hl) (fun j v hj => by rw [addr_add]; exact hnews.ok W hmm j v hj) hm0 (by simp only [maxLen] at hm; omega) (by rw [hbt]; omega)
 have hge := grownCap_ge W m 0 e
 have e4 : (ys.toArray ++ Builtin.zeroCells z.cells (grownCap W m 0 e - m)) = ⟨ys ++ (Builtin.zeroCells z.cells (grownCap W m 0 e - m)).toList⟩ := by apply Array.ext'; simp
 rw [e4] at hap
 refine ⟨W.heap.size, grownCap W m 0 e, (Builtin.zeroCells z.cells (grownCap W m 0 e - m)).toList, _, p_append (ha.eval hx) (ha.eval hy) hap, ⟨hl, ?_, hge, grownCap_le_maxLen W m 0 e hm⟩, ?_, .inr ⟨rfl, rfl⟩⟩
 ·rw [List.length_append, hl, zeroCells_len, cellsL_eq]
  show m * sz + (grownCap W m 0 e - m) * (cellsL z).length = _
  rw [hzl, <- Nat.add_mul]
  congr 1; omega
 ·exact World.alloc_heap_new W.drew _
end
end Kin
end Go
