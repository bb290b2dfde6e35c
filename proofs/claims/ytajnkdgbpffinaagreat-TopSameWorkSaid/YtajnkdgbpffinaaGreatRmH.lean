/- Rooms: the state of a version, walked. -/
import Derived.Test.YtajnkdgbpffinaaGreatEng60
set_option maxRecDepth 100000
set_option maxHeartbeats 400000000
set_option linter.unusedSectionVars false
set_option linter.unusedVariables false
set_option linter.unusedSimpArgs false
namespace Go.Proofs
open Go.RowKit Go.Kin Go.Kin.Cl
namespace R41
/-- a clone of signs: where it lies -/
structure ClS where
 A : Option Addr
 c : Nat
 M : List (Nat × Obj)
def ClS.ok (l : List Sg) (i : ClS) : Prop := (l = [] /\ i.M = []) ∨ (l ≠ [] /\ ∃ b r, i.A = some ⟨b, 0, none⟩ /\ i.M = [(b, .cells ⟨(l.map sgE).flatten ++ r⟩ 32 (0, 0))])
theorem cloneS_calls (A : Option Addr) (cap : Nat) (l : List Sg) (w : World) (hA : Kin.At w A 14 (l.map sgE)) (hz : A = none -> cap = 0) (hl : l.length <= 100000) :
  Calls Tryz.prog 53 ⟨[.slice A l.length cap]⟩ w (FrQ [] (fun i : { i : ClS // i.ok l } => .slice i.1.A l.length i.1.c) (fun i => i.1.M) w) := by
 by_cases hne : l = []
 ·subst hne
  have hsat := frQ_start (W := w) (pre := []) (by simp) fun p hp => by cases hp
  refine fEn Tryz.func53 rfl Tryz.ntmps53 rfl rfl hsat ?_
  cases A with
  | none =>
   have := hz rfl
   subst this
   repeat (first|refine lVa rfl rfl (by first|exact pEv rfl|fail) ?_|refine lNi ?_|refine cRg ?_|refine cSq ?_|refine xTh ?_|refine c_true rfl ?_|refine c_ret ?_|refine xTr ?_|refine lVa rfl rfl (v_eqNilS0 rfl rfl) ?_|fail)
   exact x_ret rfl rfl (by repeat constructor) rfl (fun W hW => ⟨⟨⟨none, 0, []⟩, .inl ⟨rfl, rfl⟩⟩, rfl, hW⟩)
  | some a =>
   repeat (first|refine lVa rfl rfl (by first|exact pEv rfl|fail) ?_|refine lNi ?_|refine cRg ?_|refine cSq ?_|refine xTh ?_|refine r_buildSlice rfl rfl rfl rfl rfl rfl (by rfl) (fun _ => ?_)|refine c_false rfl ?_|refine cSk ?_|refine lVa rfl rfl (v_eqNilS rfl rfl) ?_|fail)
   refine lVa rfl rfl (v_append0 rfl rfl rfl rfl (Nat.le_refl _)) ?_
   repeat (first|refine lVa rfl rfl (by first|exact pEv rfl|fail) ?_|refine lNi ?_|refine xTh ?_|refine c_ret ?_|fail)
   exact x_ret rfl rfl (by repeat constructor) rfl (fun W hW => ⟨⟨⟨_, 0, []⟩, .inl ⟨rfl, rfl⟩⟩, rfl, hW.mono (List.nil_sublist _)⟩)
 ·refine (cloneS53_calls A cap l w hA hne hl).mono ?_
  rintro e w' ⟨⟨⟨b, c, r⟩, hg⟩, h1, h2⟩
  exact ⟨⟨⟨some ⟨b, 0, none⟩, c, [(b, .cells ⟨(l.map sgE).flatten ++ r⟩ 32 (0, 0))]⟩, .inr ⟨hne, b, r, rfl, rfl⟩⟩, h1, h2⟩
theorem cmpZ_lt (x y : Int) : cmpZ x y < 0 ↔ x < y := by
 unfold cmpZ
 split
 ·omega
 ·split <;> omega
theorem swoI (L : List Sg) : Sort.SWO (ltOf fun x y : { s : Sg // s ∈ L } => cmpZ x.1.id y.1.id) where
 irrefl x := decide_eq_false (by rw [cmpZ_lt]; omega)
 trans x y z h1 h2 := decide_eq_true (by
  have g1 := of_decide_eq_true h1
  have g2 := of_decide_eq_true h2
  rw [cmpZ_lt] at g1 g2 ⊢; omega)
 ntrans x y z h1 h2 := decide_eq_false (by
  have g1 := of_decide_eq_false h1
  have g2 := of_decide_eq_false h2
  rw [cmpZ_lt] at g1 g2 ⊢; omega)
theorem byid_uniq {l rs : List Sg} (h : l.Pairwise fun a b => a.id < b.id) (hp : rs.Perm l) (hs : rs.Pairwise fun x y => ¬ cmpZ y.id x.id < 0) : rs = l :=
 hp.eq_of_pairwise (le := fun x y => ¬ cmpZ y.id x.id < 0) (fun x y hx hy h1 h2 => idP_of h x (hp.mem_iff.1 hx) y hy (by rw [cmpZ_lt] at h1 h2; omega)) hs (h.imp fun h => by rw [cmpZ_lt]; omega)
structure RdT where
 k : Nat
 K : List (Int × Value)
theorem read27_calls (B : Option Addr) (capB : Nat) (ps : List (Int × Int)) (A : Option Addr) (cap : Nat) (l : List Sg) (AV : Option Addr) (cv : Nat) (w : World) (hB : Kin.At w B 19 (ps.map pE)) (hP : Sto ps) (hA : Kin.At w A 14 (l.map sgE)) (hz : A = none -> cap = 0) (hwf : ∀ s ∈ l, s.wf) (hl : l.length <= 4096) (hok : chkS l = 0)
  (hV : InZ w AV cv (ps.map (·.1))) (hin : ∀ p ∈ ps, ∃ s ∈ l, s.id = p.2) :
  Calls Tryz.prog 27 ⟨[.slice B ps.length capB, .slice A l.length cap, .slice AV ps.length cv]⟩ w fun e w' => ∃ i : (Nat × Nat × Nat) × Option Addr × Nat, e = .returned (.tuple ⟨[.agg ⟨[.map (some i.1.1), .map (some i.1.2.1), .map (some i.1.2.2), .slice i.2.1 l.length i.2.2]⟩, .int .i64 0]⟩) /\ Under w.heap.size w w' /\
   w'.heap[i.1.2.1]? = some (.map ⟨[]⟩ 0) /\ RmW w' i.1.2.2 ps /\ Kin.At w' i.2.1 14 (l.map sgE) := by
 have hck := fun W (h : Under w.heap.size w W) => Check24_calls B capB ps W (hB.later h) hP
 have hcs := fun W (h : Under w.heap.size w W) => Check18_calls A cap l W (hA.later h) hwf (by omega)
 rw [hok] at hcs
 have hve := fun W (h : Under w.heap.size w W) => version25_calls B capB ps AV cv (ps.map (·.1)) W (hB.later h) (by have := hP.len; omega) hP.idn (hV.later h) (by rw [List.length_map]; exact hP.len) hP.inc fun x hx => hx
 have hst := fun W (h : Under w.heap.size w W) => stands56_calls B capB ps W (hB.later h) (by have := hP.len; omega) hP.idn
 have hcl := fun W (h : Under w.heap.size w W) => cloneS_calls A cap l W (hA.later h) hz (by omega)
 have hbs := fun (k : Nat) (x : Int) (hx : (ps.map (·.1))[k]? = some x) W (h : Under w.heap.size w W) => bs61_calls AV cv (ps.map (·.1)) k x W (hV.later h).at' (by rw [List.length_map]; have := hP.len; omega) hP.inc hx
 rw [List.length_map] at hve hbs
 obtain ⟨n, hn⟩ : ∃ n, l.length = n := ⟨_, rfl⟩
 obtain ⟨m, hm⟩ : ∃ m, ps.length = m := ⟨_, rfl⟩
 have hml : m <= 500 := by rw [<- hm]; exact hP.len
 rw [hn] at hl hcs hcl ⊢
 rw [hm] at hck hve hst hbs ⊢
 refine fEn Tryz.func27 rfl Tryz.ntmps27 rfl rfl (sWn w) ?_
 repeat ((fail_if_success refine c_probe (id := 1) ?_); (fail_if_success refine c_probe1 (id := 1) ?_); first|refine lVa rfl rfl (by first|exact pEv rfl|fail) ?_|refine lNi ?_|refine cRg ?_|refine cSq ?_|refine xTh ?_|refine r_alloc rfl rfl rfl (by first|exact aggL|fail) (fun _ => ?_)|fail)
 rename_i b6
 refine cSq ?_
 repeat (first|refine lVa rfl rfl (by first|exact pEv rfl|fail) ?_|refine cRg ?_|refine cSq ?_|fail)
 refine r_call rfl rfl rfl (fun W hW => hck W hW.below) ?_
 repeat ((fail_if_success refine c_probe (id := 4) ?_); (fail_if_success refine c_probe1 (id := 4) ?_); first|refine lVa rfl rfl (by first|exact pEv rfl|fail) ?_|refine lNi ?_|refine cRg ?_|refine cSq ?_|refine xTh ?_|refine c_false rfl ?_|refine cSk ?_|fail)
 refine cSq ?_
 repeat (first|refine lVa rfl rfl (by first|exact pEv rfl|fail) ?_|refine cRg ?_|refine cSq ?_|fail)
 refine r_call rfl rfl rfl (fun W hW => hcs W hW.below) ?_
 repeat ((fail_if_success refine c_probe (id := 7) ?_); (fail_if_success refine c_probe1 (id := 7) ?_); first|refine lVa rfl rfl (by first|exact pEv rfl|fail) ?_|refine lNi ?_|refine cRg ?_|refine cSq ?_|refine xTh ?_|refine c_false rfl ?_|refine cSk ?_|fail)
 refine cSq ?_
 repeat (first|refine lVa rfl rfl (by first|exact pEv rfl|fail) ?_|refine cRg ?_|refine cSq ?_|fail)
 refine r_call rfl rfl rfl (fun W hW => hve W hW.below) ?_
 repeat ((fail_if_success refine c_probe (id := 10) ?_); (fail_if_success refine c_probe1 (id := 10) ?_); first|refine lVa rfl rfl (by first|exact pEv rfl|fail) ?_|refine lNi ?_|refine cRg ?_|refine cSq ?_|refine xTh ?_|refine c_false rfl ?_|refine cSk ?_|fail)
 refine cSq ?_
 repeat (first|refine lVa rfl rfl (by first|exact pEv rfl|fail) ?_|refine cRg ?_|fail)
 refine r_callB (ι := Nat) (v := fun bm => .map (some bm)) rfl rfl rfl (fun W hW => (hst W hW.below).mono fun e W' ⟨bm, h1, h2, _⟩ => ⟨bm, h1, h2⟩) ?_
 intro bm
 clear hck hcs hve hst
 repeat (first|refine lVa rfl rfl (by first|exact pEv rfl|fail) ?_|refine r_makeMap rfl rfl (fun _ => ?_)|fail)
 rename_i bset br
 refine r_callF (pre := []) rfl rfl rfl (List.Perm.refl _) (fun W hW _ _ => hcl W hW.below) ?_
 rintro ⟨⟨AX, cX, MX⟩, hX⟩
 simp only at hX ⊢
 refine l_perm List.perm_append_comm ?_
 simp only [List.cons_append, List.nil_append]
 clear hcl
 repeat ((fail_if_success refine c_probe (id := 13) ?_); (fail_if_success refine c_probe1 (id := 13) ?_); first|refine lVa rfl rfl (by first|exact pEv rfl|exact v_build rfl rfl (by rfl)|fail) ?_|refine lNi ?_|refine cRg ?_|refine cSq ?_|refine xTh ?_|refine r_makeMap rfl rfl (fun _ => ?_)|refine rSt rfl rfl rfl rfl rfl rfl rfl (by repeat constructor) (by rfl) ?_|refine cBl ?_|fail)
 rename_i bk
 refine c_loop (ι := RdT) (fun s => s.k <= n /\ ∀ x ∈ l.take s.k, imGet s.K x.id = some (.bool true)) (fun s => [(0, .slice B m capB), (2, .slice AV m cv), (6, .pointer (some ⟨b6, 0, none⟩)), (8, .map (some bk)), (43, .slice A n cap), (44, .int .i64 n), (45, .int .i64 s.k)])
  (fun s => (bk, imO s.K) :: (br, imO []) :: (bset, imO []) :: (b6, .cells ⟨[.map (some bm), .map (some bset), .map (some br), .slice AX n cX]⟩ 74 (0, 0)) :: MX) (fun s => n - s.k) ⟨0, []⟩ ⟨Nat.zero_le _, fun p hp => by simp at hp⟩ (by repeat (first|exact .nil|refine .cons rfl (by first|rfl|(congr 1; done)|exact congrArg _ (by omega)|(simp; done)) ?_)) (by repeat (first|exact .nil|refine .keep (by first|rfl|assumption) ?_|refine .drop ?_|exact MSub.refl _)) ?_
 rintro ⟨k, K⟩ ⟨hk, hI⟩
 simp only at hk hI ⊢
 by_cases hlt : k < n
 ·obtain ⟨s, hs⟩ : ∃ s, l[k]? = some s := ⟨_, List.getElem?_eq_getElem (by omega)⟩
  obtain ⟨b, o, rfl, hcS⟩ := hA k (sgE s) (by rw [List.getElem?_map, hs]; rfl)
  have x1 := ext_of hcS
  have htk : l.take (k + 1) = l.take k ++ [s] := by
   obtain ⟨h1, h2⟩ := List.getElem?_eq_some_iff.1 hs
   rw [List.take_succ_eq_append_getElem h1, h2]
  have hI2 : ∀ x ∈ l.take (k + 1), imGet (imPut K s.id (.bool true)) x.id = some (.bool true) := fun x hx => by
   rw [imPut_get]
   by_cases he : x.id = s.id
   ·rw [if_pos he]
   ·rw [if_neg he]
    rw [htk] at hx
    rcases List.mem_append.1 hx with hx | hx
    ·exact hI x hx
    ·rw [List.mem_singleton.1 hx] at he; exact absurd rfl he
  clear hI htk hcS hA hbs hV hX hin
  repeat ((fail_if_success refine c_probe (id := 15) ?_); (fail_if_success refine c_probe1 (id := 15) ?_); first|refine lVa rfl rfl (by first|exact pEv rfl|exact vLd rfl (by repeat constructor) rfl (by rfl)|exact vL0 rfl (by assumption) rfl (by rfl)|exact v_index rfl rfl rfl rfl (by omega) (by omega) (by with_reducible first|exact idx4 _ _ _|fail)|fail) ?_|refine lNi ?_|refine cRg ?_|refine cSq ?_|refine xTh ?_|refine r_alloc rfl rfl rfl (by first|exact aggL|fail) (fun _ => ?_)|refine rSt rfl rfl rfl rfl rfl rfl rfl (by repeat constructor) (by rfl) ?_|refine c_dec_t rfl (by first|omega|fail) ?_|refine cBl ?_|refine cSk ?_|fail)
  repeat (first|refine l_do rfl (d_imPut (k := s.id) (v := .bool true) (s := K) rfl rfl rfl rfl rfl (by repeat constructor)) ?_|refine lVa rfl rfl (by first|exact v_add rfl rfl (by omega) (by omega)|exact pEv rfl|fail) ?_|refine lNi ?_|refine cRg ?_|refine xTh ?_|refine x_block ?_|fail)
  exact x_back ⟨k + 1, imPut K s.id (.bool true)⟩ ⟨hlt, hI2⟩ (by simp only; omega) (by repeat (first|exact .nil|refine .cons rfl (by first|rfl|(congr 1; done)|exact congrArg _ (by omega)|(simp; done)) ?_)) (by repeat (first|exact .nil|refine .keep (by first|rfl|assumption) ?_|refine .drop ?_|exact MSub.refl _))
 rw [List.take_of_length_le (by omega)] at hI
 have hknown : ∀ p ∈ ps, imGet K p.2 = some (.bool true) := fun p hp => by
  obtain ⟨s, h1, h2⟩ := hin p hp
  rw [<- h2]; exact hI s h1
 clear hI hin
 repeat ((fail_if_success refine c_probe (id := 18) ?_); (fail_if_success refine c_probe1 (id := 18) ?_); first|refine lVa rfl rfl (by first|exact pEv rfl|fail) ?_|refine lNi ?_|refine cRg ?_|refine cSq ?_|refine xTh ?_|refine c_dec_f rfl (by first|omega|fail) ?_|refine cBl ?_|refine c_exit ?_|refine xTe ?_|refine xBs ?_|fail)
 refine c_perm (.swap _ _ _) ?_
 refine c_loop (ι := Rm4) (fun s => s.k <= m /\ (∀ p ∈ ps.take s.k, ∃ b c r, imGet s.R p.2 = some (.slice (some ⟨b, 0, none⟩) 1 c) /\ (b, .cells ⟨[.int .i64 p.1] ++ r⟩ 3 (0, 0)) ∈ s.M) /\ ∀ sg, (∀ p ∈ ps.take s.k, p.2 ≠ sg) -> imGet s.R sg = none) (fun s => [(2, .slice AV m cv), (6, .pointer (some ⟨b6, 0, none⟩)), (8, .map (some bk)), (53, .slice B m capB), (54, .int .i64 m), (55, .int .i64 s.k)])
  (fun s => (br, imO s.R) :: (bk, imO K) :: (bset, imO []) :: (b6, .cells ⟨[.map (some bm), .map (some bset), .map (some br), .slice AX n cX]⟩ 74 (0, 0)) :: (MX ++ s.M)) (fun s => m - s.k) ⟨0, [], []⟩ ⟨Nat.zero_le _, fun p hp => by simp at hp, fun sg _ => rfl⟩ (by repeat (first|exact .nil|refine .cons rfl (by first|rfl|(congr 1; done)|exact congrArg _ (by omega)|(simp; done)) ?_)) (by simp only [List.append_nil]; exact .refl _) ?_
 rintro ⟨k2, R, M⟩ ⟨hk2, hI, hN⟩
 simp only at hk2 hI hN ⊢
 by_cases hlt : k2 < m
 ·obtain ⟨p, hp⟩ : ∃ p, ps[k2]? = some p := ⟨_, List.getElem?_eq_getElem (by omega)⟩
  obtain ⟨b, o, rfl, hcS⟩ := hB k2 (pE p) (by rw [List.getElem?_map, hp]; rfl)
  have x1 := ext_of hcS
  have hkn := hknown p (List.mem_of_getElem? hp)
  have hbk := hbs k2 p.1 (by rw [List.getElem?_map, hp]; rfl)
  have htk : ps.take (k2 + 1) = ps.take k2 ++ [p] := by
   obtain ⟨h1, h2⟩ := List.getElem?_eq_some_iff.1 hp
   rw [List.take_succ_eq_append_getElem h1, h2]
  have hne : ∀ q ∈ ps.take k2, q.2 ≠ p.2 := fun q hq e => by
   have h1 : ((ps.take (k2 + 1)).map (·.2)).Nodup := (List.Sublist.map _ (List.take_sublist _ _)).nodup hP.nd
   rw [htk, List.map_append] at h1
   exact (List.nodup_append.1 h1).2.2 q.2 (List.mem_map.2 ⟨q, hq, rfl⟩) p.2 (by simp) e
  have hnone := hN p.2 hne
  have hI2 : ∀ (bn cn : Nat) (rn : List Value), (∀ q ∈ ps.take (k2 + 1), ∃ b c r, imGet (imPut R p.2 (.slice (some ⟨bn, 0, none⟩) 1 cn)) q.2 = some (.slice (some ⟨b, 0, none⟩) 1 c) /\ (b, .cells ⟨[.int .i64 q.1] ++ r⟩ 3 (0, 0)) ∈ M ++ [(bn, Obj.cells ⟨[.int .i64 p.1] ++ rn⟩ 3 (0, 0))]) /\ ∀ sg, (∀ q ∈ ps.take (k2 + 1), q.2 ≠ sg) -> imGet (imPut R p.2 (.slice (some ⟨bn, 0, none⟩) 1 cn)) sg = none := fun bn cn rn => by
   rw [htk]
   refine ⟨fun q hq => ?_, fun sg hsg => ?_⟩
   ·rcases List.mem_append.1 hq with hq | hq
    ·obtain ⟨b, c, r, h1, h2⟩ := hI q hq
     exact ⟨b, c, r, by rw [imPut_get, if_neg (hne q hq)]; exact h1, List.mem_append_left _ h2⟩
    ·rw [List.mem_singleton.1 hq]
     exact ⟨bn, cn, rn, by rw [imPut_get, if_pos rfl], List.mem_append_right _ List.mem_cons_self⟩
   ·rw [imPut_get, if_neg (Ne.symm (hsg p (List.mem_append_right _ (by simp))))]
    exact hN sg fun q hq => hsg q (List.mem_append_left _ hq)
  clear hI hN hne htk hcS hB hknown hbs hA hX hP
  obtain ⟨MM, hMM⟩ : ∃ MM, MX ++ M = MM := ⟨_, rfl⟩
  have hMM2 : ∀ x : Nat × Obj, MX ++ (M ++ [x]) = MM ++ [x] := fun x => by rw [<- List.append_assoc, hMM]
  rw [hMM]
  repeat ((fail_if_success refine c_probe (id := 20) ?_); (fail_if_success refine c_probe1 (id := 20) ?_); first|refine lVa rfl rfl (by first|exact pEv rfl|exact vL0 rfl (by assumption) rfl (by rfl)|exact v_index rfl rfl rfl rfl (by omega) (by omega) (by with_reducible first|exact idx4 _ _ _|fail)|fail) ?_|refine lNi ?_|refine cRg ?_|refine cSq ?_|refine xTh ?_|refine r_alloc rfl rfl rfl (by first|exact aggL|fail) (fun _ => ?_)|refine rSt rfl rfl rfl rfl rfl rfl rfl (by repeat constructor) (by rfl) ?_|refine c_dec_t rfl (by first|omega|fail) ?_|refine cBl ?_|refine cSk ?_|fail)
  refine cSq ?_
  repeat (first|refine lVa rfl rfl (by first|exact pEv rfl|exact vLd rfl (by repeat constructor) rfl (by rfl)|fail) ?_|refine cRg ?_|refine cSq ?_|fail)
  refine r_call rfl rfl rfl (fun W hW => hbk W hW.below) ?_
  repeat ((fail_if_success refine c_probe (id := 22) ?_); (fail_if_success refine c_probe1 (id := 22) ?_); first|refine lVa rfl rfl (by first|exact pEv rfl|fail) ?_|refine lNi ?_|refine cRg ?_|refine cSq ?_|refine xTh ?_|refine c_false rfl ?_|refine cSk ?_|fail)
  refine cSq ?_
  repeat (first|refine lVa rfl rfl (v_imGet (k := p.2) (s := K) (out := .bool true) (ok := false) rfl rfl rfl rfl rfl (by repeat constructor) (by rw [hkn])) ?_|refine lVa rfl rfl (by first|exact pEv rfl|exact vLd rfl (by repeat constructor) rfl (by rfl)|fail) ?_|refine lNi ?_|refine cRg ?_|refine cSq ?_|refine xTh ?_|refine c_true rfl ?_|refine c_false rfl ?_|refine cBl ?_|refine cSk ?_|fail)
  refine c_perm (.swap _ _ _) ?_
  refine c_new 1 2 [(11, .new 1), (12, .app 2 none 1), (13, .upd 0)] [(11, [1]), (12, [2]), (13, [0])] [(8, 0), (12, 1)] rfl (by decide +kernel) rfl ?_
  repeat (first|refine e_val rfl rfl rfl rfl (v_imGet (k := p.2) (s := R) (out := .slice none 0 0) (ok := false) rfl rfl rfl rfl rfl (by repeat constructor) (by rw [hnone])) ?_|refine e_val rfl rfl rfl rfl (by first|exact pEv rfl|exact vLd rfl (by repeat constructor) rfl (by rfl)|fail) ?_|refine e_new rfl rfl rfl rfl (by first|exact n_buildSlice rfl rfl rfl rfl (by rfl)|fail) (fun _ => ?_)|fail)
  refine e_appG (e := 3) (xs := [.int .i64 p.1]) (n := 1) rfl rfl rfl rfl (by decide) rfl (by unfold maxLen; decide) rfl ?_ ?_
  ·exact a_appendN (ys := [.int .i64 p.1]) (m := 1) rfl rfl rfl rfl (news_own (by repeat constructor)) rfl rfl (by decide) (by decide) (by unfold maxLen; decide)
  intro bn cn rn hgn
  clear hgn
  refine e_imPut (s := R) (k := p.2) (v := .slice (some ⟨bn, 0, none⟩) 1 cn) rfl rfl rfl rfl rfl rfl rfl rfl ?_
  repeat ((fail_if_success refine c_probe (id := 33) ?_); (fail_if_success refine c_probe1 (id := 33) ?_); first|refine lVa rfl rfl (by first|exact v_add rfl rfl (by omega) (by omega)|exact pEv rfl|fail) ?_|refine lNi ?_|refine cRg ?_|refine xTh ?_|refine x_block ?_|refine e_nil rfl ?_|fail)
  refine x_perm (.cons _ (.cons _ (List.perm_append_singleton (bn, _) ((_, _) :: (bk, _) :: (bset, _) :: (b6, _) :: MM)).symm)) ?_
  refine x_back ⟨k2 + 1, imPut R p.2 (.slice (some ⟨bn, 0, none⟩) 1 cn), M ++ [(bn, .cells ⟨[.int .i64 p.1] ++ rn⟩ 3 (0, 0))]⟩ ⟨hlt, hI2 bn cn rn⟩ (by simp only; omega) (by repeat (first|exact .nil|refine .cons rfl (by first|rfl|(congr 1; done)|exact congrArg _ (by omega)|(simp; done)) ?_)) ?_
  simp only
  rw [hMM2]
  exact .keep rfl (.drop (.drop (.keep rfl (.keep rfl (.keep rfl (.refl _))))))
 rw [List.take_of_length_le (by omega)] at hI hN
 have hpw : l.Pairwise fun a b => a.id < b.id := by
  unfold chkS at hok
  rw [if_neg (by omega)] at hok
  by_cases h : allS none l = true
  ·exact (allS_get l none h).2.1
  ·rw [if_neg h] at hok; cases hok
 have hfinR : ∀ W, SatW w (base w) noJ ((br, imO R) :: (bset, imO []) :: M) W -> W.heap[bset]? = some (.map ⟨[]⟩ 0) /\ RmW W br ps := fun W hW => ⟨(hW.own _ (List.mem_cons_of_mem _ List.mem_cons_self)).2, R, (hW.own _ List.mem_cons_self).2, fun p hp => by
  obtain ⟨b, c, r, h1, h2⟩ := hI p hp
  exact ⟨b, c, h1, ext_pre (hW.own _ (List.mem_cons_of_mem _ (List.mem_cons_of_mem _ h2))).2⟩, hN⟩
 clear hI hN hknown hbs hA hB hP hV hok
 rcases hX with ⟨h1, h2⟩ | ⟨hne, bs, r, h1, h2⟩
 ·subst h2
  have hn0 : n = 0 := by rw [<- hn, h1]; rfl
  rw [hn0]
  rw [List.nil_append]
  repeat ((fail_if_success refine c_probe (id := 34) ?_); (fail_if_success refine c_probe1 (id := 34) ?_); first|refine lVa rfl rfl (by first|exact pEv rfl|fail) ?_|refine lNi ?_|refine cRg ?_|refine cSq ?_|refine xTh ?_|refine c_dec_f rfl (by first|omega|fail) ?_|refine c_exit ?_|refine xTe ?_|refine xBs ?_|fail)
  refine cSq ?_
  repeat (first|refine lVa rfl rfl (by first|exact pEv rfl|exact vLd rfl (by repeat constructor) rfl (by rfl)|fail) ?_|refine cRg ?_|fail)
  refine r_call rfl rfl rfl (fun W hW => sort19_none AX cX 62 W) ?_
  repeat (first|refine lVa rfl rfl (by first|exact pEv rfl|exact vLd rfl (by repeat constructor) rfl (by rfl)|fail) ?_|refine lNi ?_|refine cRg ?_|refine cSq ?_|refine xTh ?_|refine rSt rfl rfl rfl rfl rfl rfl rfl (by repeat constructor) (by rfl) ?_|refine c_ret ?_|fail)
  exact x_ret rfl rfl (by repeat constructor) rfl (fun W hW => ⟨((bm, bset, br), AX, cX), rfl, hW.below, (hfinR W (hW.mono (.cons_cons _ (.cons _ (.cons_cons _ (.cons _ (.refl _))))))).1, (hfinR W (hW.mono (.cons_cons _ (.cons _ (.cons_cons _ (.cons _ (.refl _))))))).2, by rw [h1]; intro i cs hi; simp at hi⟩)
 ·subst h1 h2
  have hsl : l.length <= 1000000 := by omega
  have hs2 := fun W hb => sort19_calls l bs cX r W 62 (fun s t => cmpZ s.id t.id) (swoI l) (fun args w => Ent.ok args w) (fun x hx y hy W => byid62_calls x y W) hne hsl hb
  rw [hn] at hs2
  refine c_perm (List.perm_middle (l₁ := [_, _, _, _])) ?_
  simp only [List.cons_append, List.nil_append]
  repeat ((fail_if_success refine c_probe (id := 34) ?_); (fail_if_success refine c_probe1 (id := 34) ?_); first|refine lVa rfl rfl (by first|exact pEv rfl|fail) ?_|refine lNi ?_|refine cRg ?_|refine cSq ?_|refine xTh ?_|refine c_dec_f rfl (by first|omega|fail) ?_|refine c_exit ?_|refine xTe ?_|refine xBs ?_|fail)
  refine cSq ?_
  repeat (first|refine lVa rfl rfl (by first|exact pEv rfl|exact vLd rfl (by repeat constructor) rfl (by rfl)|fail) ?_|refine cRg ?_|fail)
  refine r_callF (pre := [(bs, _)]) rfl rfl rfl (.refl _) (fun W hW _ hp => hs2 W (hp _ List.mem_cons_self)) ?_
  rintro ⟨rs, hrp, hrs⟩
  have hrl := byid_uniq hpw hrp hrs
  subst hrl
  repeat (first|refine lVa rfl rfl (by first|exact pEv rfl|exact vLd rfl (by repeat constructor) rfl (by rfl)|fail) ?_|refine lNi ?_|refine cRg ?_|refine cSq ?_|refine xTh ?_|refine rSt rfl rfl rfl rfl rfl rfl rfl (by repeat constructor) (by rfl) ?_|refine c_ret ?_|fail)
  exact x_ret rfl rfl (by repeat constructor) rfl (fun W hW => ⟨((bm, bset, br), some ⟨bs, 0, none⟩, cX), rfl, hW.below, (hfinR W (hW.mono (.cons _ (.cons_cons _ (.cons _ (.cons_cons _ (.cons _ (.refl _)))))))).1, (hfinR W (hW.mono (.cons _ (.cons_cons _ (.cons _ (.cons_cons _ (.cons _ (.refl _)))))))).2, at_own hW List.mem_cons_self sgE_len⟩)
end R41
end Go.Proofs
