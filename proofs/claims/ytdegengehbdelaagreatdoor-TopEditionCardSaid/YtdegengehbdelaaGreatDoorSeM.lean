/- Stemmata: tables looked at, and what they cost; walked. -/
import Derived.Test.YtdegengehbdelaaGreatDoorSeK
set_option maxRecDepth 100000
set_option maxHeartbeats 400000000
set_option linter.unusedSectionVars false
set_option linter.unusedVariables false
set_option linter.unusedSimpArgs false
namespace Go.Proofs
open Go.RowKit Go.Kin Go.Kin.Se Go.Kin.Cl
namespace R41
section
variable (ff : FuncId) [Ent Tryz.prog ff] (cs : List Value)
theorem index61_calls (A : Option Addr) (cap : Nat) (rows : List RV) (p : RV -> Bool) (w : World) (hA : Kin.At w A 1 (rows.map rvE)) (hl : rows.length <= 9223372036854775806)
  (hc : ∀ v ∈ rows, ∀ W, Below w.heap.size w W -> Calls Tryz.prog ff ⟨[] ++ rvE v ++ cs⟩ W fun e W' => e = .returned (.bool (p v)) /\ Below W.heap.size W W') :
  Calls Tryz.prog 61 ⟨[.slice A rows.length cap, .func (.func ff) ⟨[]⟩ ⟨cs⟩]⟩ w fun e w' => ∃ r : Int, ((r = -1 /\ rows.any p = false) ∨ (0 <= r /\ rows.any p = true)) /\ e = .returned (.int .i64 r) /\ Below w.heap.size w w' := by
 refine fEn Tryz.func61 rfl Tryz.ntmps61 rfl rfl (sWn w) ?_
 repeat (first|refine lVa rfl rfl (by first|exact pEv rfl|fail) ?_|refine lNi ?_|refine cRg ?_|refine cSq ?_|refine xTh ?_|refine cBl ?_|fail)
 refine c_loop (ι := Nat) (fun k => k <= rows.length /\ (rows.take k).any p = false) (fun k => [(0, .slice A rows.length cap), (1, .func (.func ff) ⟨[]⟩ ⟨cs⟩), (7, .int .i64 rows.length), (8, .int .i64 k)]) (fun _ => []) (fun k => rows.length - k) 0 ⟨Nat.zero_le _, rfl⟩ (by repeat (first|exact .nil|refine .cons rfl (by first|rfl|(congr 1; done)|exact congrArg _ (by omega)|(simp; done)) ?_)) (by repeat (first|exact .nil|refine .keep (by first|rfl|assumption) ?_|refine .drop ?_|exact MSub.refl _)) ?_
 rintro k ⟨hk, hF⟩
 by_cases hlt : k < rows.length
 ·obtain ⟨v, hv⟩ : ∃ v, rows[k]? = some v := ⟨_, List.getElem?_eq_getElem hlt⟩
  have hvm := List.mem_of_getElem? hv
  obtain ⟨b', o, rfl, hcc⟩ := hA k (rvE v) (by simp [hv])
  have he := ext_of hcc
  rw [Nat.mul_one] at he
  have ht : (rows.take (k + 1)).any p = p v := by rw [List.take_add_one, hv, List.any_append, hF]; simp
  clear hF
  repeat (first|refine lVa rfl rfl (by first|exact pEv rfl|exact vL0 rfl (by assumption) rfl (by rfl)|exact v_index rfl rfl rfl rfl (by omega) (by omega) (by with_reducible first|exact idx2 _ _|fail)|fail) ?_|refine lNi ?_|refine cRg ?_|refine cSq ?_|refine xTh ?_|refine c_dec_t rfl (by first|omega|fail) ?_|refine cBl ?_|refine cSk ?_|fail)
  refine r_callv rfl rfl rfl rfl rfl (fun W hW => hc v hvm W hW.below) ?_
  cases hp : p v with
  | true =>
   repeat (first|refine lVa rfl rfl (by first|exact pEv rfl|fail) ?_|refine lNi ?_|refine cRg ?_|refine cSq ?_|refine xTh ?_|refine c_true rfl ?_|refine c_ret ?_|refine xTr ?_|refine xBr ?_|fail)
   exact x_ret rfl rfl (by repeat constructor) rfl (fun W hW => ⟨(k : Int), .inr ⟨by omega, List.any_eq_true.2 ⟨v, hvm, hp⟩⟩, rfl, hW.below⟩)
  | false =>
   rw [hp] at ht
   repeat (first|refine lVa rfl rfl (by first|exact v_add rfl rfl (by omega) (by omega)|exact pEv rfl|fail) ?_|refine lNi ?_|refine cRg ?_|refine xTh ?_|refine c_false rfl ?_|refine cSk ?_|refine x_block ?_|fail)
   exact x_back (k + 1) ⟨hlt, ht⟩ (by omega) (by repeat (first|exact .nil|refine .cons rfl (by first|rfl|(congr 1; done)|exact congrArg _ (by omega)|(simp; done)) ?_)) (by repeat (first|exact .nil|refine .keep (by first|rfl|assumption) ?_|refine .drop ?_|exact MSub.refl _))
 ·have hkl : k = rows.length := by omega
  subst hkl
  rw [List.take_length] at hF
  repeat (first|refine lVa rfl rfl (by first|exact pEv rfl|fail) ?_|refine lNi ?_|refine cRg ?_|refine cSq ?_|refine xTh ?_|refine c_dec_f rfl (by first|omega|fail) ?_|refine c_ret ?_|refine c_exit ?_|refine xTe ?_|refine xBs ?_|fail)
  exact x_ret rfl rfl (by repeat constructor) rfl (fun W hW => ⟨-1, .inl ⟨rfl, hF⟩, rfl, hW.below⟩)
theorem any27_calls (A : Option Addr) (cap : Nat) (rows : List RV) (p : RV -> Bool) (w : World) (hA : Kin.At w A 1 (rows.map rvE)) (hl : rows.length <= 9223372036854775806)
  (hc : ∀ v ∈ rows, ∀ W, Below w.heap.size w W -> Calls Tryz.prog ff ⟨[] ++ rvE v ++ cs⟩ W fun e W' => e = .returned (.bool (p v)) /\ Below W.heap.size W W') :
  Calls Tryz.prog 27 ⟨[.slice A rows.length cap, .func (.func ff) ⟨[]⟩ ⟨cs⟩]⟩ w fun e w' => e = .returned (.bool (rows.any p)) /\ Below w.heap.size w w' := by
 refine fEn Tryz.func27 rfl Tryz.ntmps27 rfl rfl (sWn w) ?_
 repeat (first|refine lVa rfl rfl (by first|exact pEv rfl|fail) ?_|refine lNi ?_|refine cRg ?_|refine cSq ?_|refine xTh ?_|fail)
 obtain ⟨q, hq⟩ : ∃ q, rows.any p = q := ⟨_, rfl⟩
 rw [hq]
 refine r_callI (ι := { r : Int // (r = -1 /\ q = false) ∨ (0 <= r /\ q = true) }) (v := fun r => .int .i64 r.1) rfl rfl rfl (fun W hW => (index61_calls ff cs A cap rows p W (hA.sat hW) hl fun v hv W' hb => hc v hv W' (Below.trans hW.below (Below.mono hb hW.below.size))).mono fun e w' ⟨r, h1, h2, h3⟩ => ⟨⟨r, hq ▸ h1⟩, h2, h3⟩) ?_
 rintro ⟨r, hr⟩
 rcases hr with ⟨h1, rfl⟩ | ⟨h1, rfl⟩
 ·simp only
  subst h1
  repeat (first|refine lVa rfl rfl (by first|exact pEv rfl|fail) ?_|refine lNi ?_|refine xTh ?_|refine c_ret ?_|fail)
  exact x_ret rfl rfl (by repeat constructor) rfl (fun W hW => ⟨rfl, hW.below⟩)
 ·simp only
  repeat (first|refine lVa rfl rfl (by first|exact pEv rfl|fail) ?_|refine lNi ?_|refine xTh ?_|refine c_ret ?_|fail)
  exact x_ret rfl rfl (by repeat constructor) rfl (fun W hW => ⟨by simp [h1], hW.below⟩)
theorem index67_calls (A : Option Addr) (cap : Nat) (l : List Int) (p : Int -> Bool) (w : World) (hA : Kin.At w A 1 (l.map inE)) (hl : l.length <= 9223372036854775806)
  (hc : ∀ v ∈ l, ∀ W, Below w.heap.size w W -> Calls Tryz.prog ff ⟨[] ++ [.int .i64 v] ++ cs⟩ W fun e W' => e = .returned (.bool (p v)) /\ Below W.heap.size W W') :
  Calls Tryz.prog 67 ⟨[.slice A l.length cap, .func (.func ff) ⟨[]⟩ ⟨cs⟩]⟩ w fun e w' => ∃ r : Int, ((r = -1 /\ l.any p = false) ∨ (0 <= r /\ l.any p = true)) /\ e = .returned (.int .i64 r) /\ Below w.heap.size w w' := by
 refine fEn Tryz.func67 rfl Tryz.ntmps67 rfl rfl (sWn w) ?_
 repeat (first|refine lVa rfl rfl (by first|exact pEv rfl|fail) ?_|refine lNi ?_|refine cRg ?_|refine cSq ?_|refine xTh ?_|refine cBl ?_|fail)
 refine c_loop (ι := Nat) (fun k => k <= l.length /\ (l.take k).any p = false) (fun k => [(0, .slice A l.length cap), (1, .func (.func ff) ⟨[]⟩ ⟨cs⟩), (7, .int .i64 l.length), (8, .int .i64 k)]) (fun _ => []) (fun k => l.length - k) 0 ⟨Nat.zero_le _, rfl⟩ (by repeat (first|exact .nil|refine .cons rfl (by first|rfl|(congr 1; done)|exact congrArg _ (by omega)|(simp; done)) ?_)) (by repeat (first|exact .nil|refine .keep (by first|rfl|assumption) ?_|refine .drop ?_|exact MSub.refl _)) ?_
 rintro k ⟨hk, hF⟩
 by_cases hlt : k < l.length
 ·obtain ⟨v, hv⟩ : ∃ v, l[k]? = some v := ⟨_, List.getElem?_eq_getElem hlt⟩
  have hvm := List.mem_of_getElem? hv
  obtain ⟨b', o, rfl, hcc⟩ := hA k (inE v) (by simp [hv])
  have he := ext_of hcc
  rw [Nat.mul_one] at he
  have ht : (l.take (k + 1)).any p = p v := by rw [List.take_add_one, hv, List.any_append, hF]; simp
  clear hF
  repeat (first|refine lVa rfl rfl (by first|exact pEv rfl|exact vL0 rfl (by assumption) rfl (by rfl)|exact v_index rfl rfl rfl rfl (by omega) (by omega) (by with_reducible first|exact idx2 _ _|fail)|fail) ?_|refine lNi ?_|refine cRg ?_|refine cSq ?_|refine xTh ?_|refine c_dec_t rfl (by first|omega|fail) ?_|refine cBl ?_|refine cSk ?_|fail)
  refine r_callv rfl rfl rfl rfl rfl (fun W hW => hc v hvm W hW.below) ?_
  cases hp : p v with
  | true =>
   repeat (first|refine lVa rfl rfl (by first|exact pEv rfl|fail) ?_|refine lNi ?_|refine cRg ?_|refine cSq ?_|refine xTh ?_|refine c_true rfl ?_|refine c_ret ?_|refine xTr ?_|refine xBr ?_|fail)
   exact x_ret rfl rfl (by repeat constructor) rfl (fun W hW => ⟨(k : Int), .inr ⟨by omega, List.any_eq_true.2 ⟨v, hvm, hp⟩⟩, rfl, hW.below⟩)
  | false =>
   rw [hp] at ht
   repeat (first|refine lVa rfl rfl (by first|exact v_add rfl rfl (by omega) (by omega)|exact pEv rfl|fail) ?_|refine lNi ?_|refine cRg ?_|refine xTh ?_|refine c_false rfl ?_|refine cSk ?_|refine x_block ?_|fail)
   exact x_back (k + 1) ⟨hlt, ht⟩ (by omega) (by repeat (first|exact .nil|refine .cons rfl (by first|rfl|(congr 1; done)|exact congrArg _ (by omega)|(simp; done)) ?_)) (by repeat (first|exact .nil|refine .keep (by first|rfl|assumption) ?_|refine .drop ?_|exact MSub.refl _))
 ·have hkl : k = l.length := by omega
  subst hkl
  rw [List.take_length] at hF
  repeat (first|refine lVa rfl rfl (by first|exact pEv rfl|fail) ?_|refine lNi ?_|refine cRg ?_|refine cSq ?_|refine xTh ?_|refine c_dec_f rfl (by first|omega|fail) ?_|refine c_ret ?_|refine c_exit ?_|refine xTe ?_|refine xBs ?_|fail)
  exact x_ret rfl rfl (by repeat constructor) rfl (fun W hW => ⟨-1, .inl ⟨rfl, hF⟩, rfl, hW.below⟩)
theorem any42_calls (A : Option Addr) (cap : Nat) (l : List Int) (p : Int -> Bool) (w : World) (hA : Kin.At w A 1 (l.map inE)) (hl : l.length <= 9223372036854775806)
  (hc : ∀ v ∈ l, ∀ W, Below w.heap.size w W -> Calls Tryz.prog ff ⟨[] ++ [.int .i64 v] ++ cs⟩ W fun e W' => e = .returned (.bool (p v)) /\ Below W.heap.size W W') :
  Calls Tryz.prog 42 ⟨[.slice A l.length cap, .func (.func ff) ⟨[]⟩ ⟨cs⟩]⟩ w fun e w' => e = .returned (.bool (l.any p)) /\ Below w.heap.size w w' := by
 refine fEn Tryz.func42 rfl Tryz.ntmps42 rfl rfl (sWn w) ?_
 repeat (first|refine lVa rfl rfl (by first|exact pEv rfl|fail) ?_|refine lNi ?_|refine cRg ?_|refine cSq ?_|refine xTh ?_|fail)
 obtain ⟨q, hq⟩ : ∃ q, l.any p = q := ⟨_, rfl⟩
 rw [hq]
 refine r_callI (ι := { r : Int // (r = -1 /\ q = false) ∨ (0 <= r /\ q = true) }) (v := fun r => .int .i64 r.1) rfl rfl rfl (fun W hW => (index67_calls ff cs A cap l p W (hA.sat hW) hl fun v hv W' hb => hc v hv W' (Below.trans hW.below (Below.mono hb hW.below.size))).mono fun e w' ⟨r, h1, h2, h3⟩ => ⟨⟨r, hq ▸ h1⟩, h2, h3⟩) ?_
 rintro ⟨r, hr⟩
 rcases hr with ⟨h1, rfl⟩ | ⟨h1, rfl⟩
 ·simp only
  subst h1
  repeat (first|refine lVa rfl rfl (by first|exact pEv rfl|fail) ?_|refine lNi ?_|refine xTh ?_|refine c_ret ?_|fail)
  exact x_ret rfl rfl (by repeat constructor) rfl (fun W hW => ⟨rfl, hW.below⟩)
 ·simp only
  repeat (first|refine lVa rfl rfl (by first|exact pEv rfl|fail) ?_|refine lNi ?_|refine xTh ?_|refine c_ret ?_|fail)
  exact x_ret rfl rfl (by repeat constructor) rfl (fun W hW => ⟨by simp [h1], hW.below⟩)
end
end R41
end Go.Proofs

set_option maxRecDepth 100000
set_option maxHeartbeats 400000000
namespace Go.Proofs
open Go.RowKit Go.Kin Go.Kin.Se Go.Kin.Cl
namespace R41
structure OkTab (rows : List RV) (m : Nat) : Prop where
 n1 : 1 <= rows.length
 n5 : rows.length <= 5
 m64 : m <= 64
 len : ∀ v ∈ rows, v.l.length = m
 cod : ∀ v ∈ rows, ∀ s ∈ v.l, 0 <= s /\ s <= lost
theorem long41_calls (v : RV) (h : v.l.length <= 64) (w : World) : Calls Tryz.prog 41 ⟨[] ++ rvE v ++ []⟩ w fun e w' => e = .returned (.bool false) /\ Below w.heap.size w w' := by
 refine fEn Tryz.func41 rfl Tryz.ntmps41 rfl rfl (sWn w) ?_
 repeat (first|refine lVa rfl rfl (by first|exact pEv rfl|fail) ?_|refine lNi ?_|refine cRg ?_|refine cSq ?_|refine xTh ?_|refine c_ret ?_|fail)
 exact x_ret rfl rfl (by repeat constructor) rfl (fun W hW => ⟨by simp; omega, hW.below⟩)
theorem bad43_calls (s : Int) (h : 0 <= s /\ s <= lost) (w : World) : Calls Tryz.prog 43 ⟨[] ++ [.int .i64 s] ++ []⟩ w fun e w' => e = .returned (.bool false) /\ Below w.heap.size w w' := by
 obtain ⟨h1, h2⟩ := h
 unfold lost at h2
 refine fEn Tryz.func43 rfl Tryz.ntmps43 rfl rfl (sWn w) ?_
 have h3 : ¬ s < 0 := by omega
 have h4 : ¬ s > 8589934592 := by omega
 repeat (first|refine lVa rfl rfl (by first|exact pEv rfl|fail) ?_|refine lNi ?_|refine cRg ?_|refine cSq ?_|refine xTh ?_|refine c_ret ?_|refine l_dec_f rfl rfl rfl rfl rfl (by first|omega|fail) ?_|fail)
 exact x_ret rfl rfl (by repeat constructor) rfl (fun W hW => ⟨by simp; omega, hW.below⟩)
theorem table19_calls (A : Option Addr) (cap : Nat) (rows : List RV) (m : Nat) (w : World) (hA : TabIn w A rows) (hO : OkTab rows m) :
  Calls Tryz.prog 19 ⟨[.slice A rows.length cap]⟩ w fun e w' => e = .returned (.int .i64 0) /\ Below w.heap.size w w' := by
 obtain ⟨n1, n5, m64, hlen, hcod⟩ := hO
 obtain ⟨n, hn⟩ : ∃ n, rows.length = n := ⟨_, rfl⟩
 rw [hn] at n1 n5 ⊢
 have hany : rows.any (fun _ => false) = false := by simp
 obtain ⟨v0, hv0⟩ : ∃ v, rows[0]? = some v := ⟨_, List.getElem?_eq_getElem (by omega)⟩
 obtain ⟨b0, o0, hA0, hc0⟩ := hA.ar 0 (rvE v0) (by rw [List.getElem?_map, hv0]; rfl)
 have x0 := ext_of hc0
 rw [Nat.mul_one, hlen v0 (List.mem_of_getElem? hv0)] at x0
 subst hA0
 refine fEn Tryz.func19 rfl Tryz.ntmps19 rfl rfl (sWn w) ?_
 repeat (first|refine lVa rfl rfl (by first|exact pEv rfl|fail) ?_|refine lNi ?_|refine cRg ?_|refine cSq ?_|refine xTh ?_|refine l_dec_f rfl rfl rfl rfl rfl (by first|omega|exact fun h => h rfl|fail) ?_|fail)
 refine r_call (v := .bool false) rfl rfl rfl (fun W hW => ?_) ?_
 ·have := any27_calls 41 [] (some ⟨b0, o0, none⟩) cap rows (fun _ => false) W (hA.later hW.below).ar (by omega) fun v hv W' _ => long41_calls v (by rw [hlen v hv]; exact m64) W'
  rw [hn, hany] at this
  exact this
 repeat (first|refine lVa rfl rfl (by first|exact pEv rfl|fail) ?_|refine lNi ?_|refine cRg ?_|refine cSq ?_|refine xTh ?_|refine c_false rfl ?_|refine c_dec_f rfl (by first|omega|exact fun h => h rfl|fail) ?_|refine cBl ?_|refine cSk ?_|fail)
 refine c_loop (ι := Nat) (fun k => k <= n) (fun k => [(0, .slice (some ⟨b0, o0, none⟩) n cap), (15, .slice (some ⟨b0, o0, none⟩) n cap), (16, .int .i64 n), (17, .int .i64 k)]) (fun _ => []) (fun k => n - k) 0 (Nat.zero_le _) (by repeat (first|exact .nil|refine .cons rfl (by first|rfl|(congr 1; done)|exact congrArg _ (by omega)|(simp; done)) ?_)) (by repeat (first|exact .nil|refine .keep (by first|rfl|assumption) ?_|refine .drop ?_|exact MSub.refl _)) ?_
 intro k hk
 by_cases hlt : k < n
 ·obtain ⟨v, hv⟩ : ∃ v, rows[k]? = some v := ⟨_, List.getElem?_eq_getElem (by omega)⟩
  have hvm := List.mem_of_getElem? hv
  have hvl := hlen v hvm
  obtain ⟨br, or_, hAr, hcr⟩ := hA.ar k (rvE v) (by rw [List.getElem?_map, hv]; rfl)
  have xr := ext_of hcr
  rw [Nat.mul_one, hvl] at xr
  cases hAr
  have hanyv : v.l.any (fun _ => false) = false := by simp
  repeat (first|refine lVa rfl rfl (by first|exact pEv rfl|exact vL0 rfl (by assumption) rfl (by rfl)|exact v_index rfl rfl rfl rfl (by omega) (by omega) (by with_reducible first|exact idx2 _ _|exact idx6 _ _|fail)|fail) ?_|refine lNi ?_|refine cRg ?_|refine cSq ?_|refine xTh ?_|refine c_dec_t rfl (by first|omega|fail) ?_|refine cBl ?_|refine cSk ?_|refine l_dec_f rfl rfl rfl rfl rfl (by first|omega|exact fun h => h rfl|fail) ?_|fail)
  refine r_call (v := .bool false) rfl rfl rfl (fun W hW => ?_) ?_
  ·have := any42_calls 43 [] v.A v.cap v.l (fun _ => false) W ((hA.later hW.below).row v hvm) (by omega) fun s hs W' _ => bad43_calls s (hcod v hvm s hs) W'
   rw [hvl, hanyv] at this
   exact this
  repeat (first|refine lVa rfl rfl (by first|exact v_add rfl rfl (by omega) (by omega)|exact pEv rfl|fail) ?_|refine lNi ?_|refine cRg ?_|refine xTh ?_|refine c_false rfl ?_|refine cSk ?_|refine x_block ?_|fail)
  exact x_back (k + 1) (by omega) (by omega) (by repeat (first|exact .nil|refine .cons rfl (by first|rfl|(congr 1; done)|exact congrArg _ (by omega)|(simp; done)) ?_)) (by repeat (first|exact .nil|refine .keep (by first|rfl|assumption) ?_|refine .drop ?_|exact MSub.refl _))
 ·repeat (first|refine lVa rfl rfl (by first|exact pEv rfl|fail) ?_|refine lNi ?_|refine cRg ?_|refine cSq ?_|refine xTh ?_|refine c_dec_f rfl (by first|omega|fail) ?_|refine c_ret ?_|refine c_exit ?_|refine xTe ?_|refine xBs ?_|fail)
  exact x_ret rfl rfl (by repeat constructor) rfl (fun W hW => ⟨rfl, hW.below⟩)
/-! ## Costs -/
structure OkTr (n : Nat) (cl : List Nat) (t : Tr) : Prop where
 isT : isT cl t = true
 lv : ∀ i ∈ t.lv, i < n
 sz : t.sz <= 1000
 st : t.st = full n
 cll : cl.length <= 1000
/-- what loci ahead of one cost -/
def csum (rows : List RV) (t : Tr) : Nat -> Nat
 | 0 => 0
 | j + 1 => csum rows t j + prc (keysR rows j) (ownR rows j) t
theorem prc_bd {S : List Int} {own : Nat -> Int} {t : Tr} (h : Fit S own t) : prc S own t <= t.sz := by
 obtain ⟨⟨s, _, hs⟩, _⟩ := prc_spec h
 exact bel_le h _ _ hs
theorem csum_bd {rows : List RV} {t : Tr} {n : Nat} (hn : rows.length = n) (h : ∀ i ∈ t.lv, i < n) (hz : t.sz <= 1000) : ∀ j, csum rows t j <= 1000 * j
 | 0 => Nat.le_refl _
 | j + 1 => by
  have := csum_bd hn h hz j
  have := prc_bd (keysR_fit (rows := rows) (j := j) (t := t) (by rw [hn]; exact h))
  unfold csum
  omega
theorem cost20_calls (A : Option Addr) (cap : Nat) (rows : List RV) (m : Nat) (Ac : Option Addr) (capc : Nat) (cl : List Nat) (t : Tr) (w : World) (hA : TabIn w A rows) (hC : Kin.At w Ac 1 (cl.map nE)) (hg : Glob w) (hO : OkTab rows m) (hT : OkTr rows.length cl t) :
  Calls Tryz.prog 20 ⟨[.slice A rows.length cap, .slice Ac cl.length capc]⟩ w fun e w' => e = .returned (.int .i64 (csum rows t m : Nat)) /\ Below w.heap.size w w' := by
 have n5 := hO.n5
 have n1 := hO.n1
 have m64 := hO.m64
 obtain ⟨n, hn⟩ : ∃ n, rows.length = n := ⟨_, rfl⟩
 have hbd := csum_bd hn (by rw [<- hn]; exact hT.lv) hT.sz
 have hcall : ∀ j, j < m -> ∀ W, Below w.heap.size w W -> Calls Tryz.prog 44 ⟨[.slice A rows.length cap, .slice Ac cl.length capc, .int .i64 j]⟩ W fun e w' => e = .returned (.int .i64 (prc (keysR rows j) (ownR rows j) t : Nat)) /\ Below W.heap.size W w' := fun j hj W hW =>
  price44_calls A cap rows Ac capc cl j t W (hA.later hW) (hC.later hW) (hg.later hW) n5 (fun v hv => by rw [hO.len v hv]; exact hj) (by omega) (fun v hv => by rw [hO.len v hv]; omega) hT.cll hT.isT hT.lv hT.sz hT.st
 rw [hn] at n1 n5 hcall ⊢
 obtain ⟨v0, hv0⟩ : ∃ v, rows[0]? = some v := ⟨_, List.getElem?_eq_getElem (by omega)⟩
 obtain ⟨b0, o0, hA0, hc0⟩ := hA.ar 0 (rvE v0) (by rw [List.getElem?_map, hv0]; rfl)
 have x0 := ext_of hc0
 rw [Nat.mul_one, hO.len v0 (List.mem_of_getElem? hv0)] at x0
 subst hA0
 refine fEn Tryz.func20 rfl Tryz.ntmps20 rfl rfl (sWn w) ?_
 repeat (first|refine lVa rfl rfl (by first|exact pEv rfl|exact vL0 rfl (by assumption) rfl (by rfl)|exact v_index rfl rfl rfl rfl (by omega) (by omega) (by with_reducible first|exact idx6 _ _|fail)|fail) ?_|refine lNi ?_|refine cRg ?_|refine cSq ?_|refine xTh ?_|refine cBl ?_|fail)
 refine c_loop (ι := Nat) (fun k => k <= m) (fun k => [(0, .slice (some ⟨b0, o0, none⟩) n cap), (1, .slice Ac cl.length capc), (4, .int .i64 (csum rows t k : Nat)), (9, .int .i64 m), (10, .int .i64 k)]) (fun _ => []) (fun k => m - k) 0 (Nat.zero_le _) (by repeat (first|exact .nil|refine .cons rfl (by first|rfl|(congr 1; done)|exact congrArg _ (by omega)|(simp; done)) ?_)) (by repeat (first|exact .nil|refine .keep (by first|rfl|assumption) ?_|refine .drop ?_|exact MSub.refl _)) ?_
 intro k hk
 have hb := hbd k
 by_cases hlt : k < m
 ·have hb2 := hbd (k + 1)
  have hs : csum rows t (k + 1) = csum rows t k + prc (keysR rows k) (ownR rows k) t := rfl
  obtain ⟨x, hx⟩ : ∃ x, csum rows t k = x := ⟨_, rfl⟩
  obtain ⟨y, hy⟩ : ∃ y, prc (keysR rows k) (ownR rows k) t = y := ⟨_, rfl⟩
  have hck := hcall k hlt
  rw [hy] at hck hs
  rw [hx] at hs hb ⊢
  repeat (first|refine lVa rfl rfl (by first|exact pEv rfl|fail) ?_|refine lNi ?_|refine cRg ?_|refine cSq ?_|refine xTh ?_|refine c_dec_t rfl (by first|omega|fail) ?_|refine cBl ?_|refine cSk ?_|fail)
  refine r_call rfl rfl rfl (fun W hW => hck W hW.below) ?_
  repeat (first|refine lVa rfl rfl (by first|exact v_add rfl rfl (by omega) (by omega)|exact pEv rfl|fail) ?_|refine lNi ?_|refine cRg ?_|refine xTh ?_|refine x_block ?_|fail)
  refine x_back (k + 1) (by omega) (by omega) ?_ (by repeat (first|exact .nil|refine .keep (by first|rfl|assumption) ?_|refine .drop ?_|exact MSub.refl _))
  simp only [hs]
  exact (by repeat (first|exact .nil|refine .cons rfl (by first|rfl|(congr 1; done)|exact congrArg _ (by omega)|(simp; done)) ?_))
 ·have hkm : k = m := by omega
  subst hkm
  repeat (first|refine lVa rfl rfl (by first|exact pEv rfl|fail) ?_|refine lNi ?_|refine cRg ?_|refine cSq ?_|refine xTh ?_|refine c_dec_f rfl (by first|omega|fail) ?_|refine c_ret ?_|refine c_exit ?_|refine xTe ?_|refine xBs ?_|fail)
  exact x_ret rfl rfl (by repeat constructor) rfl (fun W hW => ⟨rfl, hW.below⟩)
theorem Cost9_calls (A : Option Addr) (cap : Nat) (rows : List RV) (m : Nat) (Ac : Option Addr) (capc : Nat) (cl : List Nat) (t : Tr) (w : World) (hA : TabIn w A rows) (hC : Kin.At w Ac 1 (cl.map nE)) (hg : Glob w) (hO : OkTab rows m) (hT : OkTr rows.length cl t) (hk : chkB rows.length cl = true) :
  Calls Tryz.prog 9 ⟨[.slice A rows.length cap, .slice Ac cl.length capc]⟩ w fun e w' => e = .returned (.tuple ⟨[.int .i64 (csum rows t m : Nat), .int .i64 0]⟩) /\ Below w.heap.size w w' := by
 have n5 := hO.n5
 have h19 := fun W (hW : Below w.heap.size w W) => table19_calls A cap rows m W (hA.later hW) hO
 have h20 := fun W (hW : Below w.heap.size w W) => cost20_calls A cap rows m Ac capc cl t W (hA.later hW) (hC.later hW) (hg.later hW) hO hT
 have h24 := fun W (hW : Below w.heap.size w W) => CheckT_calls rows.length Ac capc cl W (hC.later hW) n5 hk
 obtain ⟨n, hn⟩ : ∃ n, rows.length = n := ⟨_, rfl⟩
 rw [hn] at n5 h19 h20 h24 ⊢
 refine fEn Tryz.func9 rfl Tryz.ntmps9 rfl rfl (sWn w) ?_
 repeat (first|refine lVa rfl rfl (by first|exact pEv rfl|fail) ?_|refine lNi ?_|refine cRg ?_|refine cSq ?_|refine xTh ?_|fail)
 refine r_call rfl rfl rfl (fun W hW => h19 W hW.below) ?_
 repeat (first|refine lVa rfl rfl (by first|exact pEv rfl|fail) ?_|refine lNi ?_|refine cRg ?_|refine cSq ?_|refine xTh ?_|refine c_false rfl ?_|refine cSk ?_|fail)
 refine r_call rfl rfl rfl (fun W hW => h24 W hW.below) ?_
 repeat (first|refine lVa rfl rfl (by first|exact pEv rfl|fail) ?_|refine lNi ?_|refine cRg ?_|refine cSq ?_|refine xTh ?_|refine c_false rfl ?_|refine cSk ?_|fail)
 refine r_call rfl rfl rfl (fun W hW => h20 W hW.below) ?_
 repeat (first|refine lVa rfl rfl (by first|exact pEv rfl|fail) ?_|refine lNi ?_|refine xTh ?_|refine c_ret ?_|fail)
 exact x_ret rfl rfl (by repeat constructor) rfl (fun W hW => ⟨rfl, hW.below⟩)
end R41
end Go.Proofs
