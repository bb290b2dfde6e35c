/- From witnesses to the edition: the edition as one more witness, its signs, plain. -/
import Derived.Test.YtdegengehbdelaaGreatDoorTeA
import Derived.Test.YtdegengehbdelaaGreatDoorSeY
import Derived.Test.YtdegengehbdelaaGreatDoorClTc
import Derived.Test.YtdegengehbdelaaGreatDoorClO
set_option maxRecDepth 100000
set_option maxHeartbeats 400000000
set_option linter.unusedSectionVars false
set_option linter.unusedVariables false
set_option linter.unusedSimpArgs false
namespace Go.Kin.Se
theorem trees_wide : ∀ n, n < 5 -> 0 < n -> (trees n).all (fun cl => okW n cl && decide (8 + (tre n cl).sz <= 1000)) = true := by decide +kernel
/-- the whole set is a clade -/
def rootB (cl : List Nat) : Tr -> Bool
 | .lf _ => true
 | .nd l r => decide (Tr.st (.nd l r) ∈ cl)
theorem trees_root : ∀ n, n < 5 -> 0 < n -> (trees n).all (fun cl => rootB cl (tre n cl)) = true := by decide +kernel
end Go.Kin.Se
namespace Go.Proofs
open Go.RowKit Go.Kin Go.Kin.Se Go.Kin.Cl
namespace R41
theorem root_of {n : Nat} {cl : List Nat} (h0 : 0 < n) (h4 : n < 5) (h : cl ∈ trees n) : ∀ l r, tre n cl = .nd l r -> (tre n cl).st ∈ cl := fun l r e => by
 have h1 := List.all_eq_true.1 (trees_root n h4 h0) cl h
 rw [e] at h1 ⊢
 exact of_decide_eq_true h1
/-- the tree with the edition at its root -/
def wTr (n : Nat) (cl : List Nat) : Tr := .nd (tre n cl) (.lf n)
def wCl (n : Nat) (cl : List Nat) : List Nat := cl ++ [full (n + 1)]
theorem okTr_wide {n : Nat} {cl : List Nat} (h0 : 0 < n) (h4 : n < 5) (h : cl ∈ trees n) : OkTr (n + 1) (wCl n cl) (wTr n cl) /\ chkB (n + 1) (wCl n cl) = true := by
 have h1 := List.all_eq_true.1 (trees_wide n h4 h0) cl h
 rw [Bool.and_eq_true] at h1
 obtain ⟨h1, h2⟩ := h1
 unfold okW at h1
 rw [Bool.and_eq_true, Bool.and_eq_true] at h1
 obtain ⟨h3, h5, h6⟩ := h1
 obtain ⟨hT, _⟩ := okTr_of h0 h4 h
 refine ⟨⟨h5, fun i hi => ?_, ?_, of_decide_eq_true h6, ?_⟩, h3⟩
 ·rcases List.mem_append.1 hi with hi | hi
  ·have := hT.lv i hi; omega
  ·rw [List.mem_singleton.1 hi]; omega
 ·have := of_decide_eq_true h2
  show 8 + ((tre n cl).sz + 0) <= 1000
  omega
 ·have := (trees_len n h4 h0).2
  have := of_decide_eq_true (List.all_eq_true.1 this cl h)
  unfold wCl
  rw [List.length_append]
  show cl.length + 1 <= 1000
  omega
/-- what the edition reads is a state, and not lost -/
theorem rdK_key {ws : List Wi} {rows : List RV} {m : Nat} {t : Tr} (h : TbOK ws rows m) (hlv : ∀ i ∈ t.lv, i < rows.length) (k : Nat) : rdK rows t k ∈ keysR rows k /\ rdK rows t k ≠ lost /\ bel (keysR rows k) (ownR rows k) t (rdK rows t k) = some (prc (keysR rows k) (ownR rows k) t) := by
 obtain ⟨h1, h2⟩ := rtL_sub (rdK_mem (stS_fit (j := k) (h.getD k) hlv))
 have hS := stS_mem (h.getD k)
 have hk := (hS _).1 h1
 refine ⟨hk, ?_, by rw [<- bel_mem hS, <- prc_mem hS]; exact h2⟩
 rcases fold_in rows [0] _ hk with h3 | ⟨_, _, _, h3⟩
 ·rw [List.mem_singleton.1 h3]; unfold lost; decide
 ·exact h3
theorem rdL_getD {rows : List RV} {t : Tr} {m k : Nat} (h : k < m) (d : Int) : (rdL rows t m).getD k d = rdK rows t k := by
 rw [List.getD_eq_getElem?_getD]
 unfold rdL
 rw [List.getElem?_map, List.getElem?_range h]; rfl
theorem rdL_cod {ws : List Wi} {rows : List RV} {m : Nat} {t : Tr} (h : TbOK ws rows m) (hlv : ∀ i ∈ t.lv, i < rows.length) : ∀ s ∈ rdL rows t m, 0 <= s /\ s <= lost := fun s hs => by
 unfold rdL at hs
 obtain ⟨k, _, rfl⟩ := List.mem_map.1 hs
 obtain ⟨h1, _, _⟩ := rdK_key h hlv k
 rcases fold_in rows [0] _ h1 with h3 | ⟨v, hv, e, _⟩
 ·rw [List.mem_singleton.1 h3]; unfold lost; decide
 ·rw [e, List.getD_eq_getElem?_getD]
  cases hj : v.l[k]? with
  | none => show 0 <= lost /\ lost <= lost; unfold lost; decide
  | some s => exact h.cod v hv s (List.mem_of_getElem? hj)
theorem ownR_app {rows : List RV} {u : RV} {j i : Nat} (h : i < rows.length) : ownR (rows ++ [u]) j i = ownR rows j i := by
 unfold ownR
 rw [List.map_append, List.getD_eq_getElem?_getD (i := i), List.getElem?_append_left (by rw [List.length_map]; exact h), <- List.getD_eq_getElem?_getD]
theorem ownR_last {rows : List RV} {u : RV} {j : Nat} : ownR (rows ++ [u]) j rows.length = u.l.getD j lost := by
 have : (rows ++ [u])[rows.length]? = some u := by rw [List.getElem?_append_right (Nat.le_refl _), Nat.sub_self]; rfl
 unfold ownR
 rw [List.getD_eq_getElem?_getD (i := rows.length), List.getElem?_map, this]; rfl
theorem prc_ext {S : List Int} {own own' : Nat -> Int} {t : Tr} (h : ∀ i ∈ t.lv, own i = own' i) : prc S own t = prc S own' t := by
 unfold prc
 rw [funext (bel_ext h)]
theorem keysR_wide {ws : List Wi} {rows : List RV} {m : Nat} {t : Tr} {u : RV} (h : TbOK ws rows m) (hlv : ∀ i ∈ t.lv, i < rows.length) (hu : u.l = rdL rows t m) {j : Nat} (hj : j < m) : keysR (rows ++ [u]) j = keysR rows j := by
 unfold keysR
 rw [List.foldl_append]
 show addR j (rows.foldl (addR j) [0]) u = _
 unfold addR
 rw [if_pos]
 right
 rw [hu, rdL_getD hj]
 exact (rdK_key h hlv j).1
theorem prc_one {ws : List Wi} {rows : List RV} {m : Nat} {t : Tr} {u : RV} (h : TbOK ws rows m) (hlv : ∀ i ∈ t.lv, i < rows.length) (hu : u.l = rdL rows t m) {j : Nat} (hj : j < m) : prc (keysR (rows ++ [u]) j) (ownR (rows ++ [u]) j) (.nd t (.lf rows.length)) = prc (keysR rows j) (ownR rows j) t := by
 rw [keysR_wide h hlv hu hj]
 obtain ⟨h1, h2, h3⟩ := rdK_key h hlv j
 have he : ∀ i ∈ t.lv, ownR (rows ++ [u]) j i = ownR rows j i := fun i hi => ownR_app (hlv i hi)
 have hf : Fit (keysR rows j) (ownR rows j) t := keysR_fit hlv
 rw [prc_wide (m := rdK rows t j) ⟨hf.1, fun i hi => by rw [he i hi]; exact hf.2 i hi⟩ h1 (by rw [ownR_last, hu, rdL_getD hj]) h2 (by rw [bel_ext he, prc_ext he]; exact h3)]
 exact prc_ext he
/-- the edition costs nothing more -/
theorem csum_wide {ws : List Wi} {rows : List RV} {m : Nat} {t : Tr} {u : RV} (h : TbOK ws rows m) (hlv : ∀ i ∈ t.lv, i < rows.length) (hu : u.l = rdL rows t m) : ∀ j, j <= m -> csum (rows ++ [u]) (.nd t (.lf rows.length)) j = csum rows t j
 | 0, _ => rfl
 | j + 1, hj => by
  show csum _ _ j + _ = csum _ _ j + _
  rw [csum_wide h hlv hu j (by omega), prc_one h hlv hu hj]
theorem TbOK.wide {ws : List Wi} {rows : List RV} {m : Nat} {t : Tr} {u : RV} (h : TbOK ws rows m) (hlv : ∀ i ∈ t.lv, i < rows.length) (hu : u.l = rdL rows t m) (h4 : rows.length < 5) (hm : m <= 64) : OkTab (rows ++ [u]) m := by
 refine ⟨by simp, by rw [List.length_append]; show rows.length + 1 <= 5; omega, hm, fun v hv => ?_, fun v hv => ?_⟩
 ·rcases List.mem_append.1 hv with hv | hv
  ·exact h.len v hv
  ·rw [List.mem_singleton.1 hv, hu, rdL_len]
 ·rcases List.mem_append.1 hv with hv | hv
  ·exact h.cod v hv
  ·rw [List.mem_singleton.1 hv, hu]; exact rdL_cod h hlv
/-- where all agree, the edition agrees -/
theorem rdK_agree {ws : List Wi} {rows : List RV} {m : Nat} {t : Tr} {k : Nat} {c : Int} (h : TbOK ws rows m) (hlv : ∀ i ∈ t.lv, i < rows.length) (h0 : 0 < rows.length) (hk : k < m) (hl : c ≠ lost) (ha : ∀ v ∈ rows, v.l[k]? = some c) : rdK rows t k = c := by
 have hown : ∀ i, i < rows.length -> ownR rows k i = c := fun i hi => ownR_get (List.getElem?_eq_getElem hi) (ha _ (List.getElem_mem hi))
 obtain ⟨v, hv⟩ : ∃ v, rows[0]? = some v := ⟨_, List.getElem?_eq_getElem h0⟩
 have hvm := List.mem_of_getElem? hv
 have hc : c ∈ keysR rows k := by
  rcases fold_mem (j := k) rows [0] v hvm with h1 | h1
  ·rw [List.getD_eq_getElem?_getD, ha v hvm] at h1; exact absurd h1 hl
  ·rw [List.getD_eq_getElem?_getD, ha v hvm] at h1; exact h1
 have hc' := (stS_mem (h.getD k) c).2 hc
 have h2 : ∀ i ∈ t.lv, ownR rows k i = c := fun i hi => hown i (hlv i hi)
 have h3 := bel_agree hc' h2
 have h4 := prc_agree hc' h2
 unfold rdK
 rw [hown 0 h0, if_pos]
 unfold rtL rts
 exact List.mem_filter.2 ⟨hc', decide_eq_true (by rw [h3, h4])⟩
/-! ## The signs of the edition, as a map and as a witness -/
theorem nz_range (l : List Int) : nz l = ((List.range l.length).filter fun j : Nat => decide (l.getD j 0 ≠ 0)).map fun j : Nat => l.getD j 0 := by
 have h : l = (List.range l.length).map fun j => l.getD j 0 := by
  apply List.ext_getElem?
  intro j
  rw [List.getElem?_map]
  by_cases hj : j < l.length
  ·rw [List.getElem?_range hj]
   show l[j]? = some (l.getD j 0)
   rw [List.getD_eq_getElem?_getD, List.getElem?_eq_getElem hj]; rfl
  ·rw [List.getElem?_eq_none (by omega), List.getElem?_eq_none (by rw [List.length_range]; omega)]; rfl
 have h2 : nz l = nz ((List.range l.length).map fun j => l.getD j 0) := congrArg nz h
 rw [h2]
 unfold nz
 rw [List.filter_map]
 rfl
def hvF (m : List (Int × Value)) (s : Sg) : List (Int × Value) := imPut m s.id (.int .i64 (codeV s))
def hvL (l : List Sg) : List (Int × Value) := l.foldl hvF []
theorem hvL_take {l : List Sg} {k : Nat} {s : Sg} (h : l[k]? = some s) : hvL (l.take (k + 1)) = imPut (hvL (l.take k)) s.id (.int .i64 (codeV s)) := by
 unfold hvL
 rw [List.take_add_one, h, List.foldl_append]; rfl
theorem hvL_get {f : Int -> Int} {q : Int} : ∀ (l : List Sg) (m : List (Int × Value)), (∀ s ∈ l, codeV s = f s.id) -> imGet (l.foldl hvF m) q = if q ∈ l.map Sg.id then some (.int .i64 (f q)) else imGet m q
 | [], m, _ => by simp
 | s :: l, m, h => by
  rw [List.foldl_cons, hvL_get l _ fun x hx => h x (List.mem_cons_of_mem _ hx)]
  unfold hvF
  rw [imPut_get, h s List.mem_cons_self]
  by_cases h1 : q ∈ l.map Sg.id
  ·rw [if_pos h1, if_pos (by rw [List.map_cons]; exact List.mem_cons_of_mem _ h1)]
  ·rw [if_neg h1]
   by_cases h2 : q = s.id
   ·rw [if_pos h2, if_pos (by rw [List.map_cons, h2]; exact List.mem_cons_self), h2]
   ·rw [if_neg h2, if_neg (by rw [List.map_cons, List.mem_cons]; exact fun g => g.elim h2 h1)]
theorem zok_pair {rd : List Int} {m : Nat} {sgs : List Sg} (h : ZOK rd m sgs) {s : Sg} (hs : s ∈ sgs) : ∃ j : Nat, j < m /\ rd.getD j 0 ≠ 0 /\ s.id = (j : Int) /\ codeV s = rd.getD j 0 := by
 have h1 : (s.id, codeV s) ∈ sgs.map fun s => (s.id, codeV s) := List.mem_map.2 ⟨s, hs, rfl⟩
 rw [h.ls] at h1
 obtain ⟨j, hj, e⟩ := List.mem_map.1 h1
 obtain ⟨h2, h3⟩ := List.mem_filter.1 hj
 injection e with e1 e2
 exact ⟨j, List.mem_range.1 h2, of_decide_eq_true h3, e1.symm, e2.symm⟩
/-- what the map says of a locus -/
theorem hv_at {rd : List Int} {m : Nat} {sgs : List Sg} (h : ZOK rd m sgs) {k : Nat} (hk : k < m) : (match imGet (hvL sgs) (k : Int) with | some v => v | none => .int .i64 0) = .int .i64 (rd.getD k 0) := by
 have h1 := hvL_get (f := fun q => rd.getD q.toNat 0) (q := (k : Int)) sgs [] fun s hs => by
  obtain ⟨j, _, _, e1, e2⟩ := zok_pair h hs
  rw [e1, e2, Int.toNat_natCast]
 rw [Int.toNat_natCast] at h1
 unfold hvL
 rw [h1]
 by_cases h2 : (k : Int) ∈ sgs.map Sg.id
 ·rw [if_pos h2]
 ·rw [if_neg h2]
  have h3 : rd.getD k 0 = 0 := by
   apply Classical.byContradiction
   intro h3
   have h4 : ((k : Int), rd.getD k 0) ∈ sgs.map fun s => (s.id, codeV s) := by
    rw [h.ls]
    exact List.mem_map.2 ⟨k, List.mem_filter.2 ⟨List.mem_range.2 hk, decide_eq_true h3⟩, rfl⟩
   obtain ⟨s, hs, e⟩ := List.mem_map.1 h4
   injection e with e1 e2
   exact h2 (List.mem_map.2 ⟨s, hs, e1⟩)
  rw [h3]; rfl
/-- a sign of the edition as a reading -/
def rdZ (s : Sg) : Rd := ⟨false, { s with id := 0 }⟩
theorem rdZ_form {s : Sg} (h : formB s = true) : formB { s with id := 0 } = true := by
 have hf : formP s := of_decide_eq_true h
 obtain ⟨_, f1⟩ := hf
 exact decide_eq_true ⟨⟨by show (0 : Int) <= 0; decide, by show (0 : Int) <= 1048576; decide⟩, f1⟩
theorem rdZ_read {s : Sg} (h : formB s = true) : readB (rdZ s) = true := by
 unfold rdZ
 rw [readB_f, rdZ_form h]; rfl
theorem rdZ_cod {s : Sg} (h : formB s = true) : cod (rdZ s) = codeV s := by
 unfold rdZ
 rw [cod_f, codA_t (okS_of_form (rdZ_form h))]; rfl
theorem zok_cds {rd : List Int} {m : Nat} {sgs : List Sg} (h : ZOK rd m sgs) (hm : rd.length = m) : sgs.map (fun s => cod (rdZ s)) = nz rd := by
 have h1 : sgs.map (fun s => cod (rdZ s)) = (sgs.map fun s => (s.id, codeV s)).map Prod.snd := by
  rw [List.map_map]
  exact List.map_congr_left fun s hs => rdZ_cod (h.ok s hs).1
 rw [h1, h.ls, List.map_map, nz_range, hm]
 rfl
theorem nz_len (l : List Int) : (nz l).length <= l.length := List.length_filter_le _ _
theorem zok_len {rd : List Int} {m : Nat} {sgs : List Sg} (h : ZOK rd m sgs) (hm : rd.length = m) : sgs.length <= m := by
 have h1 := congrArg List.length (zok_cds h hm)
 rw [List.length_map] at h1
 have := nz_len rd
 omega
theorem zok_incr {rd : List Int} {m : Nat} {sgs : List Sg} (h : ZOK rd m sgs) : sgs.Pairwise fun a b => a.id < b.id := by
 have h1 : (sgs.map fun s => (s.id, codeV s)).Pairwise fun a b => a.1 < b.1 := by
  rw [h.ls, List.pairwise_map]
  refine List.Pairwise.imp (R := fun a b : Nat => a < b) (fun hab => ?_) ((List.pairwise_lt_range).filter _)
  show ((_ : Nat) : Int) < ((_ : Nat) : Int)
  omega
 rw [List.pairwise_map] at h1
 exact h1
/-- the edition as a witness -/
def edW (A : Option Addr) (cap : Nat) (sgs : List Sg) : Wi := ⟨1, 0, A, cap, sgs.map rdZ⟩
theorem edW_chk {A : Option Addr} {cap : Nat} {rd : List Int} {m : Nat} {sgs : List Sg} (h : ZOK rd m sgs) (hm : rd.length = m) (h64 : m <= 64) : chkW [edW A cap sgs] = 0 := by
 have hl : (sgs.map rdZ).length <= 64 := by rw [List.length_map]; have := zok_len h hm; omega
 rw [chkW_in (by simp) (fun x hx => by rw [List.mem_singleton.1 hx]; exact hl)]
 refine if_pos ?_
 show (witB 0 (edW A cap sgs) && true) = true
 rw [Bool.and_true]
 unfold witB
 rw [Bool.and_eq_true]
 refine ⟨decide_eq_true ⟨by show (0 : Int) < 1; decide, by show (1 : Int) <= 1048576; decide, by show (0 : Int) <= 0; decide, by show (0 : Int) <= 3000; decide⟩, List.all_eq_true.2 fun r hr => ?_⟩
 obtain ⟨s, hs, rfl⟩ := List.mem_map.1 hr
 exact rdZ_read (h.ok s hs).1
theorem edW_cds {A : Option Addr} {cap : Nat} {rd : List Int} {m : Nat} {sgs : List Sg} (h : ZOK rd m sgs) (hm : rd.length = m) : cds (edW A cap sgs) = nz rd := by
 unfold cds edW
 rw [List.map_map]
 exact zok_cds h hm
end R41
end Go.Proofs

set_option maxRecDepth 100000
set_option maxHeartbeats 400000000
namespace Go.Proofs
open Go.RowKit Go.Kin Go.Kin.Se Go.Kin.Cl
namespace R41
theorem i64_0 : I64 0 := ⟨by decide, by decide⟩
def x0W (A : Option Addr) : Wi := ⟨1, 0, A, 1, [⟨true, sg0⟩]⟩
theorem chk_x0 (A : Option Addr) : chkW [x0W A] = 0 := by
 rw [chkW_in (by simp) (fun x hx => by rw [List.mem_singleton.1 hx]; show (1 : Nat) <= 64; omega)]
 exact if_pos (by show (witB 0 (x0W A) && true) = true; unfold witB x0W; simp [readB_t])
theorem ls_x0 (A : Option Addr) : lsW [x0W A] = [[8589934592]] := rfl
theorem row_x0 : rowI [[8589934592]] 0 = [8589934592] := by decide +kernel
theorem loci_x0 : lociN [[8589934592]] = 1 := by decide +kernel
theorem tab_x0 (A : Option Addr) : tabE [x0W A] = 0 /\ tabR [x0W A] = [[8589934592]] := by
 obtain ⟨h1, h2⟩ := tab_ok (chk_x0 A) (by simp) (by rw [ls_x0, loci_x0]; decide)
 refine ⟨h1, ?_⟩
 rw [h2, ls_x0]
 show [rowI [[8589934592]] 0] = _
 rw [row_x0]
theorem tr_x0 : tre 1 [] = .lf 0 := by
 show Tr.lf (log2 8 (full 1)) = _
 have : log2 8 (full 1) = 0 := by decide +kernel
 rw [this]
theorem one_tree : OkTr 1 [] (tre 1 []) /\ chkB 1 [] = true := okTr_of (by decide) (by decide) (by decide +kernel)
theorem rd_x0 (A : Option Addr) (c : Nat) : rdL [⟨A, c, [8589934592]⟩] (.lf 0) 1 = [0] := by
 have e1 : stS [⟨A, c, [8589934592]⟩] 0 = [0] := by
  unfold stS
  have : lstN [⟨A, c, [8589934592]⟩] 0 ([⟨A, c, [8589934592]⟩] : List RV).length = [0] := by
   unfold lstN
   simp [cdN, lost]
  rw [this]; rfl
 unfold rdL
 show [rdK _ _ 0] = _
 unfold rdK rtL
 rw [e1]
 have e2 : ownR [⟨A, c, [8589934592]⟩] 0 0 = lost := rfl
 have e3 : rts [0] (ownR [⟨A, c, [8589934592]⟩] 0) (.lf 0) = [0] := by
  unfold rts
  have h1 : bel [0] (ownR [⟨A, c, [8589934592]⟩] 0) (.lf 0) 0 = some 0 := if_pos (.inr e2)
  have h2 : prc [0] (ownR [⟨A, c, [8589934592]⟩] 0) (.lf 0) = 0 := by
   unfold prc
   rw [List.filterMap_cons_some h1]; rfl
  rw [List.filter_cons, if_pos (by rw [h1, h2]; rfl)]; rfl
 rw [e2, e3, if_neg (by unfold lost; decide)]; rfl
theorem sane4_calls (w : World) (hg : Glob w) : Calls Tryz.prog 4 ⟨[]⟩ w fun e w' => e = .returned (.bool true) /\ Below w.heap.size w w' := by
 refine fEn Tryz.func4 rfl Tryz.ntmps4 rfl rfl (sWn w) ?_
 repeat (first|refine lVa rfl rfl (by first|exact pEv rfl|exact v_build rfl rfl (by rfl)|fail) ?_|refine lNi ?_|refine cRg ?_|refine cSq ?_|refine xTh ?_|refine r_buildSlice rfl rfl rfl rfl rfl rfl (by rfl) (fun _ => ?_)|fail)
 rename_i br bw
 refine l_callF (ι := Option Addr × Nat × List RV) (v := fun q => .tuple ⟨[.slice q.1 q.2.2.length q.2.1, .int .i64 (tabE [x0W (some ⟨br, 0, none⟩)])]⟩) (mem' := []) (fun q W W' => q.2.2.map RV.l = tabR [x0W (some ⟨br, 0, none⟩)] /\ RowsF W W' q.1 q.2.2) rfl rfl rfl (by repeat (first|exact .nil|refine .keep (by first|rfl|assumption) ?_|refine .drop ?_|exact MSub.refl _)) (fun W hW => ?_) ?_
 ·refine (Table_calls (some ⟨bw, 0, none⟩) 1 [x0W (some ⟨br, 0, none⟩)] W (hW.rows (b := bw) (by repeat constructor) (rest := []) rfl (fun r hr => by rw [List.mem_singleton.1 hr]; rfl)) (fun y hy => ?_) (by simp)).mono ?_
  ·rw [List.mem_singleton.1 hy]
   refine ⟨hW.rows (b := br) (by repeat constructor) (rest := []) rfl (fun r hr => by rw [List.mem_singleton.1 hr]; rfl), fun r hr => ?_, by show (1 : Nat) <= _; omega⟩
   rw [List.mem_singleton.1 hr]
   exact ⟨i64_0, i64_0, i64_0, i64_0⟩
  rintro e W' ⟨TA, tc, rows, h1, h2, h3, h4⟩
  exact ⟨(TA, tc, rows), h1, h2, h3, h4⟩
 rintro ⟨TA, tc, rows⟩ W W1 hV hB1 hW1 ⟨hr1, hr2⟩
 simp only at hr1 hr2 ⊢
 obtain ⟨t1, t2⟩ := tab_x0 (some ⟨br, 0, none⟩)
 rw [t1]
 rw [t2] at hr1
 have hS1 : Same (base w) w W1 := hW1.same
 have hTI : TabIn W1 TA rows := ⟨hr2.top.at', fun v hv => (hr2.row v hv).at'⟩
 have hg1 := hg.later hS1.base_later
 obtain ⟨v, rfl⟩ : ∃ v, rows = [v] := by
  cases rows with
  | nil => cases hr1
  | cons v l =>
   cases l with
   | nil => exact ⟨v, rfl⟩
   | cons u l => simp at hr1
 obtain ⟨vA, vc, vl⟩ := v
 obtain rfl : vl = [8589934592] := by simpa using hr1
 have hO : OkTab [⟨vA, vc, [8589934592]⟩] 1 := ⟨by simp, by simp, by decide, fun v hv => by rw [List.mem_singleton.1 hv]; rfl, fun v hv s hs => by
  rw [List.mem_singleton.1 hv] at hs
  rw [List.mem_singleton.1 hs]
  exact ⟨by decide, by unfold lost; decide⟩⟩
 obtain ⟨hT, hk⟩ := one_tree
 rw [tr_x0] at hT
 have hb : ∀ (mem : List (Nat × Obj)) (W : World), SatW W1 (allBut W1 (List.map (·.1) ([] : List (Nat × Obj)))) noJ mem W -> Below W1.heap.size W1 W := fun mem W hW => hW.same.below (Nat.le_refl _) fun k hk => ⟨hk, by simp⟩
 have h10 := fun W (hW : Below W1.heap.size W1 W) => make10_calls TA tc [⟨vA, vc, [8589934592]⟩] 1 0 0 [] (.lf 0) 3 W (hTI.later hW) (fun h => absurd rfl h) (hg1.later hW) hO hT hk (fun l r h => by cases h) ⟨by decide, by decide⟩
 have h10n := fun W (hW : Below W1.heap.size W1 W) => make10_neg TA tc [⟨vA, vc, [8589934592]⟩] 1 0 0 [] (.lf 0) (-1) W (hTI.later hW) (fun h => absurd rfl h) (hg1.later hW) hO hT hk (fun l r h => by cases h) (by decide)
 rw [rd_x0] at h10
 clear hV hB1 hW1 hr2 hTI hg1 hr1
 repeat (first|refine lVa rfl rfl (by first|exact pEv rfl|fail) ?_|refine lNi ?_|refine cRg ?_|refine cSq ?_|refine xTh ?_|fail)
 refine r_callF (pre := []) (ι := EdI [] [0]) (v := fun i => .tuple ⟨[i.a 3, .int .i64 0]⟩) (post := fun i => i.m) rfl rfl rfl (.refl _) (fun W hW _ _ => h10 W (hb _ W hW)) ?_
 rintro ⟨b1, c1, r1, b2, c2, r2, g1, g2⟩
 simp only [EdI.a, EdI.m, gSl, gM, List.nil_append, List.append_nil]
 have e1 : ([0] : List Int).length = 1 := rfl
 have e2 : (([0] : List Int).map inE).flatten ++ r2 = .int .i64 0 :: r2 := rfl
 rw [e1, e2]
 repeat (first|refine lVa rfl rfl (by first|exact pEv rfl|fail) ?_|refine lNi ?_|refine cRg ?_|refine cSq ?_|refine xTh ?_|refine r_alloc rfl rfl rfl (by first|exact aggL|fail) (fun _ => ?_)|refine rSt rfl rfl rfl rfl rfl rfl rfl (by repeat constructor) (by rfl) ?_|fail)
 refine r_call rfl rfl rfl (fun W hW => h10n W (hb _ W hW)) ?_
 repeat (first|refine lVa rfl rfl (by first|exact pEv rfl|exact vLd rfl (by repeat constructor) rfl (by rfl)|exact v_index rfl rfl rfl rfl (by omega) (by omega) (by with_reducible first|exact idx5 _|fail)|fail) ?_|refine lNi ?_|refine cRg ?_|refine cSq ?_|refine xTh ?_|refine r_alloc rfl rfl rfl (by first|exact aggL|fail) (fun _ => ?_)|refine rSt rfl rfl rfl rfl rfl rfl rfl (by repeat constructor) (by rfl) ?_|refine c_ret ?_|fail)
 exact x_ret rfl rfl (by repeat constructor) rfl (fun W hW => ⟨by simp, hS1.base_later.trans ((hb _ W hW).mono hS1.size)⟩)
end R41
end Go.Proofs
