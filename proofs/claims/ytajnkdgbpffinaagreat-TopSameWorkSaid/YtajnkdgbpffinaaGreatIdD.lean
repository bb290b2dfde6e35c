/- Identity: the order of essences, in plain words. -/
import Derived.Test.YtajnkdgbpffinaaGreatIdC
set_option linter.unusedSectionVars false
set_option linter.unusedVariables false
set_option linter.unusedSimpArgs false
namespace Go.Proofs
open Go.RowKit Go.Kin Go.Kin.Cl Go.Sort Go.Shelf
namespace R41
theorem rat_le {a b c d e f : Int} (hb : 0 < b) (hd : 0 < d) (hf : 0 < f) (h1 : a * d <= c * b) (h2 : c * f <= e * d) : a * f <= e * b := by
 have g1 : a * d * f <= c * b * f := Int.mul_le_mul_of_nonneg_right h1 (Int.le_of_lt hf)
 have g2 : c * f * b <= e * d * b := Int.mul_le_mul_of_nonneg_right h2 (Int.le_of_lt hb)
 have e1 : a * d * f = a * f * d := by rw [Int.mul_assoc, Int.mul_comm d f, <- Int.mul_assoc]
 have e2 : c * b * f = c * f * b := by rw [Int.mul_assoc, Int.mul_comm b f, <- Int.mul_assoc]
 have e3 : e * d * b = e * b * d := by rw [Int.mul_assoc, Int.mul_comm d b, <- Int.mul_assoc]
 exact Int.le_of_mul_le_mul_right (a := d) (by omega) hd
theorem rat_lt {a b c d e f : Int} (hb : 0 < b) (hd : 0 < d) (hf : 0 < f) (h1 : a * d <= c * b) (h2 : c * f <= e * d) (h : a * d < c * b ∨ c * f < e * d) : a * f < e * b := by
 have e1 : a * d * f = a * f * d := by rw [Int.mul_assoc, Int.mul_comm d f, <- Int.mul_assoc]
 have e2 : c * b * f = c * f * b := by rw [Int.mul_assoc, Int.mul_comm b f, <- Int.mul_assoc]
 have e3 : e * d * b = e * b * d := by rw [Int.mul_assoc, Int.mul_comm d b, <- Int.mul_assoc]
 have g1 : a * d * f <= c * b * f := Int.mul_le_mul_of_nonneg_right h1 (Int.le_of_lt hf)
 have g2 : c * f * b <= e * d * b := Int.mul_le_mul_of_nonneg_right h2 (Int.le_of_lt hb)
 refine Int.lt_of_mul_lt_mul_right (a := d) ?_ (Int.le_of_lt hd)
 rcases h with h | h
 ·have := Int.mul_lt_mul_of_pos_right h hf; omega
 ·have := Int.mul_lt_mul_of_pos_right h hb; omega
theorem cmpS_iff (s t : Sg) : cmpS s t < 0 ↔ (s.role < t.role ∨ s.role = t.role /\ (s.bar < t.bar ∨ s.bar = t.bar /\ (s.fn * t.fd < t.fn * s.fd ∨ s.fn * t.fd = t.fn * s.fd /\ s.id < t.id))) := by
 unfold cmpS cmpF cmpI
 generalize s.fn * t.fd = p
 generalize t.fn * s.fd = q
 repeat' split
 all_goals omega
theorem formB_fd {s : Sg} (h : formB s = true) : 0 < s.fd := by
 have h1 := okQ_of h h
 unfold okQ at h1
 rw [Bool.and_eq_true] at h1
 have := (R12.okB_iff.1 h1.1).1
 omega
/-- x does not stand behind y -/
def leS (x y : Sg) : Prop := ¬ cmpS y x < 0
theorem cmpS_trans {x y z : Sg} (hx : formB x = true) (hy : formB y = true) (hz : formB z = true) : cmpS x y < 0 -> cmpS y z < 0 -> cmpS x z < 0 := by
 have px := formB_fd hx; have py := formB_fd hy; have pz := formB_fd hz
 rw [cmpS_iff, cmpS_iff, cmpS_iff]
 have t1 := fun h1 h2 => rat_le (a := x.fn) (b := x.fd) (c := y.fn) (d := y.fd) (e := z.fn) (f := z.fd) px py pz h1 h2
 have t2 := fun h1 h2 h => rat_lt (a := x.fn) (b := x.fd) (c := y.fn) (d := y.fd) (e := z.fn) (f := z.fd) px py pz h1 h2 h
 have t3 := fun h1 h2 => rat_le (a := z.fn) (b := z.fd) (c := y.fn) (d := y.fd) (e := x.fn) (f := x.fd) pz py px h1 h2
 generalize x.fn * y.fd = a at *
 generalize y.fn * x.fd = a' at *
 generalize y.fn * z.fd = b at *
 generalize z.fn * y.fd = b' at *
 generalize x.fn * z.fd = c at *
 generalize z.fn * x.fd = c' at *
 intro h1 h2
 by_cases g1 : a <= a' <;> by_cases g2 : b <= b'
 ·have := t1 g1 g2
  by_cases g3 : a < a' ∨ b < b'
  ·have := t2 g1 g2 g3; omega
  ·have := t3 (by omega) (by omega); omega
 all_goals omega
theorem leS_trans {x y z : Sg} (hx : formB x = true) (hy : formB y = true) (hz : formB z = true) : leS x y -> leS y z -> leS x z := by
 have px := formB_fd hx; have py := formB_fd hy; have pz := formB_fd hz
 unfold leS
 rw [cmpS_iff, cmpS_iff, cmpS_iff]
 have t1 := fun h1 h2 => rat_le (a := x.fn) (b := x.fd) (c := y.fn) (d := y.fd) (e := z.fn) (f := z.fd) px py pz h1 h2
 have t2 := fun h1 h2 h => rat_lt (a := x.fn) (b := x.fd) (c := y.fn) (d := y.fd) (e := z.fn) (f := z.fd) px py pz h1 h2 h
 have t3 := fun h1 h2 => rat_le (a := z.fn) (b := z.fd) (c := y.fn) (d := y.fd) (e := x.fn) (f := x.fd) pz py px h1 h2
 generalize x.fn * y.fd = a at *
 generalize y.fn * x.fd = a' at *
 generalize y.fn * z.fd = b at *
 generalize z.fn * y.fd = b' at *
 generalize x.fn * z.fd = c at *
 generalize z.fn * x.fd = c' at *
 intro h1 h2
 by_cases g1 : a <= a' <;> by_cases g2 : b <= b'
 ·have := t1 g1 g2
  by_cases g3 : a < a' ∨ b < b'
  ·have := t2 g1 g2 g3; omega
  ·have := t3 (by omega) (by omega); omega
 all_goals omega
theorem leS_anti {x y : Sg} (h1 : leS x y) (h2 : leS y x) : x.id = y.id := by
 unfold leS at h1 h2
 rw [cmpS_iff] at h1 h2
 generalize x.fn * y.fd = a at *
 generalize y.fn * x.fd = a' at *
 omega
theorem leS_of {x y : Sg} (h : cmpS x y < 0) : leS x y := by
 unfold leS
 rw [cmpS_iff] at h ⊢
 generalize x.fn * y.fd = a at *
 generalize y.fn * x.fd = a' at *
 omega
theorem swoS {L : List Sg} (h : ∀ s ∈ L, formB s = true) : SWO (ltOf fun x y : { s : Sg // s ∈ L } => cmpS x.1 y.1) where
 irrefl x := by
  have : ¬ cmpS x.1 x.1 < 0 := by rw [cmpS_iff]; omega
  exact decide_eq_false this
 trans x y z h1 h2 := decide_eq_true (cmpS_trans (h _ x.2) (h _ y.2) (h _ z.2) (of_decide_eq_true h1) (of_decide_eq_true h2))
 ntrans x y z h1 h2 := decide_eq_false (leS_trans (h _ z.2) (h _ y.2) (h _ x.2) (of_decide_eq_false h2) (of_decide_eq_false h1))
def insS (x : Sg) : List Sg -> List Sg
 | [] => [x]
 | y :: l => if cmpS x y < 0 then x :: y :: l else y :: insS x l
def sortS (L : List Sg) : List Sg := L.foldr insS []
theorem insS_perm (x : Sg) : ∀ l, (insS x l).Perm (x :: l)
 | [] => .refl _
 | y :: l => by
  unfold insS
  split
  ·exact .refl _
  ·exact ((insS_perm x l).cons y).trans (.swap ..)
theorem sortS_perm : ∀ L, (sortS L).Perm L
 | [] => .refl _
 | x :: L => (insS_perm x _).trans ((sortS_perm L).cons x)
theorem insS_sorted (x : Sg) (hx : formB x = true) : ∀ l, (∀ s ∈ l, formB s = true) -> l.Pairwise leS -> (insS x l).Pairwise leS
 | [], _, _ => by simp [insS]
 | y :: l, hv, h => by
  rw [List.pairwise_cons] at h
  have hy := hv y List.mem_cons_self
  unfold insS
  split
  ·rename_i hlt
   refine List.pairwise_cons.2 ⟨fun z hz => ?_, List.pairwise_cons.2 h⟩
   rcases List.mem_cons.1 hz with rfl | hz
   ·exact leS_of hlt
   ·exact leS_trans hx hy (hv z (List.mem_cons_of_mem _ hz)) (leS_of hlt) (h.1 z hz)
  ·rename_i hlt
   refine List.pairwise_cons.2 ⟨fun z hz => ?_, insS_sorted x hx l (fun s hs => hv s (List.mem_cons_of_mem _ hs)) h.2⟩
   rcases List.mem_cons.1 ((insS_perm x l).mem_iff.1 hz) with rfl | hz
   ·exact hlt
   ·exact h.1 z hz
theorem sortS_sorted : ∀ L : List Sg, (∀ s ∈ L, formB s = true) -> (sortS L).Pairwise leS
 | [], _ => List.Pairwise.nil
 | x :: L, h => insS_sorted x (h x List.mem_cons_self) _ (fun s hs => h s (List.mem_cons_of_mem _ ((sortS_perm L).mem_iff.1 hs))) (sortS_sorted L fun s hs => h s (List.mem_cons_of_mem _ hs))
/-- numbers part the signs of a list -/
def idP (L : List Sg) : Prop := ∀ x ∈ L, ∀ y ∈ L, x.id = y.id -> x = y
theorem idP_of {l : List Sg} (h : l.Pairwise fun a b => a.id < b.id) : idP l := fun x hx y hy e => by
 obtain ⟨i, hi, rfl⟩ := List.mem_iff_getElem.1 hx
 obtain ⟨j, hj, rfl⟩ := List.mem_iff_getElem.1 hy
 have h1 := List.pairwise_iff_getElem.1 h
 rcases Nat.lt_trichotomy i j with h2 | rfl | h2
 ·have := h1 i j hi hj h2; omega
 ·rfl
 ·have := h1 j i hj hi h2; omega
theorem sort_uniq {L rs rs' : List Sg} (hid : idP L) (h1 : rs.Perm L) (h2 : rs.Pairwise leS) (h3 : rs'.Perm L) (h4 : rs'.Pairwise leS) : rs = rs' :=
 (h1.trans h3.symm).eq_of_pairwise (fun x y hx hy g1 g2 => hid x (h1.mem_iff.1 hx) y (h3.mem_iff.1 hy) (leS_anti g1 g2)) h2 h4
def isE (s : Sg) : Bool := decide (s.mark = 1)
/-- the essential signs, in the order of essences; their codes -/
def essL (l : List Sg) : List Sg := sortS (l.filter isE)
def essC (l : List Sg) : List Int := (essL l).map codeV
theorem formB_okS {s : Sg} (h : formB s = true) : okS s = true := by
 obtain ⟨_, h2, _, h4, _, h6, h7, h8, h9, h10, _⟩ := (of_decide_eq_true h : formP s)
 exact okS_iff.2 ⟨h2, h4, h6, h7, h8, h9, h10⟩
theorem essL_form {l : List Sg} (h : ∀ s ∈ l, formB s = true) : ∀ s ∈ essL l, formB s = true := fun s hs => h s (List.mem_filter.1 ((sortS_perm _).mem_iff.1 hs)).1
end R41
end Go.Proofs
