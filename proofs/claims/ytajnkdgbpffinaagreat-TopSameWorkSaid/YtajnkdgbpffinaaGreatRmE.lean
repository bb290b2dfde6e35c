/- Rooms: the check of a list of patches that remove, walked. -/
import Derived.Test.YtajnkdgbpffinaaGreatEng59
import Derived.Test.YtajnkdgbpffinaaGreatIdK
set_option maxRecDepth 100000
set_option maxHeartbeats 400000000
set_option linter.unusedSectionVars false
set_option linter.unusedVariables false
set_option linter.unusedSimpArgs false
namespace Go.Proofs
open Go.RowKit Go.Kin Go.Kin.Cl
namespace R41
/-- a list of patches that remove signs, none of which needs another one -/
structure Sto (ps : List (Int × Int)) : Prop where
 len : ps.length <= 500
 pid : ∀ p ∈ ps, 1 <= p.1 /\ p.1 <= 1048576
 sid : ∀ p ∈ ps, 0 <= p.2 /\ p.2 <= 1048576
 inc : (ps.map (·.1)).Pairwise (· < ·)
 nd : (ps.map (·.2)).Nodup
theorem Sto.idn {ps : List (Int × Int)} (h : Sto ps) : (ps.map (·.1)).Nodup := h.inc.imp fun h => Int.ne_of_lt h
theorem idx87_calls (f : Value) (w : World) : Calls Tryz.prog 87 ⟨[.slice none 0 0, f]⟩ w fun e w' => e = .returned (.int .i64 (-1)) /\ Under w.heap.size w w' := by
 refine fEn Tryz.func87 rfl Tryz.ntmps87 rfl rfl (sWn w) ?_
 repeat (first|refine lVa rfl rfl (by first|exact pEv rfl|fail) ?_|refine lNi ?_|refine cRg ?_|refine cSq ?_|refine xTh ?_|refine c_false rfl ?_|refine cBl ?_|refine c_ret ?_|refine c_exit ?_|refine xTe ?_|refine xBs ?_|refine c_rounds 0 ?_|fail)
 exact x_ret rfl rfl (by repeat constructor) rfl (fun W hW => ⟨rfl, hW.below⟩)
theorem any54_calls (f : Value) (w : World) : Calls Tryz.prog 54 ⟨[.slice none 0 0, f]⟩ w fun e w' => e = .returned (.bool false) /\ Under w.heap.size w w' := by
 refine fEn Tryz.func54 rfl Tryz.ntmps54 rfl rfl (sWn w) ?_
 repeat (first|refine lVa rfl rfl (by first|exact pEv rfl|fail) ?_|refine lNi ?_|refine cRg ?_|refine cSq ?_|refine xTh ?_|fail)
 refine r_call rfl rfl rfl (fun W hW => idx87_calls f W) ?_
 repeat (first|refine lVa rfl rfl (by first|exact pEv rfl|fail) ?_|refine lNi ?_|refine xTh ?_|refine c_ret ?_|fail)
 exact x_ret rfl rfl (by repeat constructor) rfl (fun W hW => ⟨rfl, hW.below⟩)
/-- what removes each sign -/
def RmW (W : World) (br : Nat) (ps : List (Int × Int)) : Prop := ∃ R, W.heap[br]? = some (imO R) /\ (∀ p ∈ ps, ∃ b c, imGet R p.2 = some (.slice (some ⟨b, 0, none⟩) 1 c) /\ Ext W (base W) b 0 [.int .i64 p.1]) /\ ∀ s, (∀ p ∈ ps, p.2 ≠ s) -> imGet R s = none
structure Rm2 where
 k : Nat
 K : List (Int × Value)
 last : Int
structure Rm4 where
 k : Nat
 R : List (Int × Value)
 M : List (Nat × Obj)
theorem Check24_calls (B : Option Addr) (capB : Nat) (ps : List (Int × Int)) (w : World) (hB : Kin.At w B 19 (ps.map pE)) (hP : Sto ps) :
  Calls Tryz.prog 24 ⟨[.slice B ps.length capB]⟩ w fun e w' => e = .returned (.int .i64 0) /\ Under w.heap.size w w' := by
 have hst := fun W (h : Under w.heap.size w W) => stands56_calls B capB ps W (hB.later h) (by have := hP.len; omega) hP.idn
 obtain ⟨n, hn⟩ : ∃ n, ps.length = n := ⟨_, rfl⟩
 have hl : n <= 500 := by rw [<- hn]; exact hP.len
 rw [hn] at hst ⊢
 have hget : ∀ (w0 : World), Kin.At w0 B 19 (ps.map pE) -> ∀ k, k < n -> ∃ p b o, ps[k]? = some p /\ p ∈ ps /\ B = some ⟨b, o, none⟩ /\ Ext w0 (base w0) b (o + k * 19) (pE p) := fun w0 h0 k hk => by
  obtain ⟨p, hp⟩ : ∃ p, ps[k]? = some p := ⟨_, List.getElem?_eq_getElem (by omega)⟩
  obtain ⟨b, o, h1, hcS⟩ := h0 k (pE p) (by rw [List.getElem?_map, hp]; rfl)
  exact ⟨p, b, o, hp, List.mem_of_getElem? hp, h1, ext_of hcS⟩
 refine fEn Tryz.func24 rfl Tryz.ntmps24 rfl rfl (sWn w) ?_
 repeat ((fail_if_success refine c_probe (id := 4) ?_); (fail_if_success refine c_probe1 (id := 4) ?_); first|refine lVa rfl rfl (by first|exact pEv rfl|fail) ?_|refine lNi ?_|refine cRg ?_|refine cSq ?_|refine xTh ?_|refine c_dec_f rfl (by first|omega|exact fun h => h rfl|fail) ?_|refine cBl ?_|refine cSk ?_|fail)
 refine c_loop (ι := Nat) (fun k => k <= n) (fun k => [(0, .slice B n capB), (2, .int .i64 0), (25, .slice B n capB), (26, .int .i64 n), (27, .int .i64 k)]) (fun _ => []) (fun k => n - k) 0 (Nat.zero_le _) (by repeat (first|exact .nil|refine .cons rfl (by first|rfl|(congr 1; done)|exact congrArg _ (by omega)|(simp; done)) ?_)) (by repeat (first|exact .nil|refine .keep (by first|rfl|assumption) ?_|refine .drop ?_|exact MSub.refl _)) ?_
 intro k hk
 by_cases hlt : k < n
 ·obtain ⟨p, b, o, hp, hpm, rfl, x1⟩ := hget w hB k hlt
  have hc22 := fun W => patch22_calls p.1 p.2 W (hP.pid p hpm) (hP.sid p hpm)
  clear hst hget
  repeat ((fail_if_success refine c_probe (id := 6) ?_); (fail_if_success refine c_probe1 (id := 6) ?_); first|refine lVa rfl rfl (by first|exact pEv rfl|exact vL0 rfl (by assumption) rfl (by rfl)|exact v_index rfl rfl rfl rfl (by omega) (by omega) (by with_reducible first|exact idx4 _ _ _|fail)|fail) ?_|refine lNi ?_|refine cRg ?_|refine cSq ?_|refine xTh ?_|refine r_alloc rfl rfl rfl (by first|exact aggL|fail) (fun _ => ?_)|refine rSt rfl rfl rfl rfl rfl rfl rfl (by repeat constructor) (by rfl) ?_|refine c_dec_t rfl (by first|omega|fail) ?_|refine cBl ?_|refine cSk ?_|fail)
  refine cSq ?_
  repeat (first|refine lVa rfl rfl (by first|exact vLd rfl (by repeat constructor) rfl (by rfl)|fail) ?_|refine cRg ?_|fail)
  refine r_call rfl rfl rfl (fun W hW => hc22 W) ?_
  repeat ((fail_if_success refine c_probe (id := 9) ?_); (fail_if_success refine c_probe1 (id := 9) ?_); first|refine lVa rfl rfl (by first|exact v_add rfl rfl (by omega) (by omega)|exact pEv rfl|fail) ?_|refine lNi ?_|refine cRg ?_|refine cSq ?_|refine xTh ?_|refine c_false rfl ?_|refine cSk ?_|refine x_block ?_|fail)
  exact x_back (k + 1) hlt (by omega) (by repeat (first|exact .nil|refine .cons rfl (by first|rfl|(congr 1; done)|exact congrArg _ (by omega)|(simp; done)) ?_)) (by repeat (first|exact .nil|refine .keep (by first|rfl|assumption) ?_|refine .drop ?_|exact MSub.refl _))
 repeat ((fail_if_success refine c_probe (id := 12) ?_); (fail_if_success refine c_probe1 (id := 12) ?_); first|refine lVa rfl rfl (by first|exact pEv rfl|fail) ?_|refine lNi ?_|refine cRg ?_|refine cSq ?_|refine xTh ?_|refine r_makeMap rfl rfl (fun _ => ?_)|refine r_alloc rfl rfl rfl (by first|exact aggL|fail) (fun _ => ?_)|refine rSt rfl rfl rfl rfl rfl rfl rfl (by repeat constructor) (by rfl) ?_|refine c_dec_f rfl (by first|omega|fail) ?_|refine cBl ?_|refine c_exit ?_|refine xTe ?_|refine xBs ?_|fail)
 rename_i bk0 bt5
 refine c_loop (ι := Rm2) (fun s => s.k <= n /\ ∀ p, ps[s.k]? = some p -> s.last < p.1) (fun s => [(0, .slice B n capB), (5, .pointer (some ⟨bt5, 0, none⟩)), (6, .int .i64 s.last), (38, .slice B n capB), (39, .int .i64 n), (40, .int .i64 s.k)]) (fun s => [(bt5, .cells ⟨[.map (some bk0)]⟩ 114 (0, 0)), (bk0, imO s.K)]) (fun s => n - s.k) ⟨0, [], 0⟩
  ⟨Nat.zero_le _, fun p hp => by have := (hP.pid p (List.mem_of_getElem? hp)).1; show (0 : Int) < p.1; omega⟩ (by repeat (first|exact .nil|refine .cons rfl (by first|rfl|(congr 1; done)|exact congrArg _ (by omega)|(simp; done)) ?_)) (by repeat (first|exact .nil|refine .keep (by first|rfl|assumption) ?_|refine .drop ?_|exact MSub.refl _)) ?_
 rintro ⟨k, K, last⟩ ⟨hk, hlast⟩
 simp only at hk hlast ⊢
 by_cases hlt : k < n
 ·obtain ⟨p, b, o, hp, hpm, rfl, x1⟩ := hget w hB k hlt
  have h1 := hlast p hp
  have hnext : ∀ q, ps[k + 1]? = some q -> p.1 < q.1 := fun q hq => by
   obtain ⟨g1, g2⟩ := List.getElem?_eq_some_iff.1 hp
   obtain ⟨g3, g4⟩ := List.getElem?_eq_some_iff.1 hq
   have := List.pairwise_iff_getElem.1 hP.inc k (k + 1) (by rw [List.length_map]; exact g1) (by rw [List.length_map]; exact g3) (by omega)
   rwa [List.getElem_map, List.getElem_map, g2, g4] at this
  clear hst hget hlast
  repeat ((fail_if_success refine c_probe (id := 14) ?_); (fail_if_success refine c_probe1 (id := 14) ?_); first|refine lVa rfl rfl (by first|exact pEv rfl|exact vL0 rfl (by assumption) rfl (by rfl)|exact v_index rfl rfl rfl rfl (by omega) (by omega) (by with_reducible first|exact idx4 _ _ _|fail)|fail) ?_|refine lNi ?_|refine cRg ?_|refine cSq ?_|refine xTh ?_|refine r_alloc rfl rfl rfl (by first|exact aggL|fail) (fun _ => ?_)|refine rSt rfl rfl rfl rfl rfl rfl rfl (by repeat constructor) (by rfl) ?_|refine c_dec_t rfl (by first|omega|fail) ?_|refine cBl ?_|refine cSk ?_|fail)
  refine cSq ?_
  repeat (first|refine lVa rfl rfl (by first|exact pEv rfl|exact vLd rfl (by repeat constructor) rfl (by rfl)|fail) ?_|refine cRg ?_|refine cSq ?_|refine l_dec_f rfl rfl rfl rfl rfl (by first|omega|fail) ?_|fail)
  refine r_call rfl rfl rfl (fun W hW => any54_calls _ W) ?_
  repeat ((fail_if_success refine c_probe (id := 16) ?_); (fail_if_success refine c_probe1 (id := 16) ?_); first|refine lVa rfl rfl (by first|exact pEv rfl|fail) ?_|refine lNi ?_|refine xTh ?_|refine c_false rfl ?_|refine cSk ?_|fail)
  refine c_perm (List.perm_middle (l₁ := [_, _])) ?_
  simp only [List.cons_append, List.nil_append]
  refine c_new 1 0 [(5, .upd 0)] [(5, [0])] [] rfl (by decide +kernel) rfl ?_
  repeat ((fail_if_success refine c_probe (id := 17) ?_); (fail_if_success refine c_probe1 (id := 17) ?_); first|refine e_imPut (s := K) (k := p.1) (v := .bool true) rfl rfl rfl rfl rfl rfl rfl rfl ?_|refine lVa rfl rfl (by first|exact v_add rfl rfl (by omega) (by omega)|exact pEv rfl|fail) ?_|refine lNi ?_|refine cRg ?_|refine xTh ?_|refine x_block ?_|refine e_val rfl rfl rfl rfl (by first|exact pEv rfl|exact vLd rfl (by repeat constructor) rfl (by rfl)|fail) ?_|refine e_nil rfl ?_|fail)
  refine x_perm (List.perm_middle (l₁ := [_, _]) (l₂ := [])).symm ?_
  exact x_back ⟨k + 1, imPut K p.1 (.bool true), p.1⟩ ⟨hlt, hnext⟩ (by simp only; omega) (by repeat (first|exact .nil|refine .cons rfl (by first|rfl|(congr 1; done)|exact congrArg _ (by omega)|(simp; done)) ?_)) (by repeat (first|exact .nil|refine .keep (by first|rfl|assumption) ?_|refine .drop ?_|exact MSub.refl _))
 clear hlast
 repeat ((fail_if_success refine c_probe (id := 18) ?_); (fail_if_success refine c_probe1 (id := 18) ?_); first|refine lVa rfl rfl (by first|exact pEv rfl|fail) ?_|refine lNi ?_|refine cRg ?_|refine cSq ?_|refine xTh ?_|refine c_dec_f rfl (by first|omega|fail) ?_|refine c_exit ?_|refine xTe ?_|refine xBs ?_|fail)
 refine cSq ?_
 repeat (first|refine lVa rfl rfl (by first|exact pEv rfl|fail) ?_|refine cRg ?_|fail)
 refine l_callF (ι := Nat) (v := fun bm => .map (some bm)) (mem' := []) (fun bm W W' => StW W' bm ps) rfl rfl rfl .nil (fun W hW => hst W hW.below) ?_
 intro bm W W' hW hBW hW' hS
 have hB1 : Under w.heap.size w W' := hW.below.trans (hBW.mono hW.below.size)
 have hB' := hB.later hB1
 clear hst
 repeat ((fail_if_success refine c_probe (id := 21) ?_); (fail_if_success refine c_probe1 (id := 21) ?_); first|refine lVa rfl rfl (by first|exact pEv rfl|fail) ?_|refine lNi ?_|refine cRg ?_|refine cSq ?_|refine xTh ?_|refine r_makeMap rfl rfl (fun _ => ?_)|refine cBl ?_|fail)
 rename_i bi br
 refine c_loop (ι := Rm4) (fun s => s.k <= n /\ (∀ p ∈ ps.take s.k, ∃ b c r, imGet s.R p.2 = some (.slice (some ⟨b, 0, none⟩) 1 c) /\ (b, .cells ⟨[.int .i64 p.1] ++ r⟩ 3 (0, 0)) ∈ s.M) /\ ∀ sg, (∀ p ∈ ps.take s.k, p.2 ≠ sg) -> imGet s.R sg = none) (fun s => [(0, .slice B n capB), (9, .map (some bm)), (10, .map (some bi)), (11, .map (some br)), (64, .slice B n capB), (65, .int .i64 n), (66, .int .i64 s.k)])
  (fun s => (br, imO s.R) :: (bi, imO []) :: s.M) (fun s => n - s.k) ⟨0, [], []⟩ ⟨Nat.zero_le _, fun p hp => by simp at hp, fun sg _ => rfl⟩ (by repeat (first|exact .nil|refine .cons rfl (by first|rfl|(congr 1; done)|exact congrArg _ (by omega)|(simp; done)) ?_)) (by repeat (first|exact .nil|refine .keep (by first|rfl|assumption) ?_|refine .drop ?_|exact MSub.refl _)) ?_
 rintro ⟨k, R, M⟩ ⟨hk, hI, hN⟩
 simp only at hk hI hN ⊢
 by_cases hlt : k < n
 ·obtain ⟨p, b, o, hp, hpm, rfl, x0⟩ := hget W' hB' k hlt
  have x1 : Ext W' (allBut W' (List.map (·.1) ([] : List (Nat × Obj)))) _ _ _ := ⟨⟨x0.dom, by simp⟩, x0.cell⟩
  have htk : ps.take (k + 1) = ps.take k ++ [p] := by
   obtain ⟨h1, h2⟩ := List.getElem?_eq_some_iff.1 hp
   rw [List.take_succ_eq_append_getElem h1, h2]
  have hne : ∀ q ∈ ps.take k, q.2 ≠ p.2 := fun q hq e => by
   have h1 : ((ps.take (k + 1)).map (·.2)).Nodup := (List.Sublist.map _ (List.take_sublist _ _)).nodup hP.nd
   rw [htk, List.map_append] at h1
   exact (List.nodup_append.1 h1).2.2 q.2 (List.mem_map.2 ⟨q, hq, rfl⟩) p.2 (by simp) e
  have hnone := hN p.2 hne
  have hI2 : ∀ (bn cn : Nat) (rn : List Value), (∀ q ∈ ps.take (k + 1), ∃ b c r, imGet (imPut R p.2 (.slice (some ⟨bn, 0, none⟩) 1 cn)) q.2 = some (.slice (some ⟨b, 0, none⟩) 1 c) /\ (b, .cells ⟨[.int .i64 q.1] ++ r⟩ 3 (0, 0)) ∈ (bn, Obj.cells ⟨[.int .i64 p.1] ++ rn⟩ 3 (0, 0)) :: M) /\ ∀ sg, (∀ q ∈ ps.take (k + 1), q.2 ≠ sg) -> imGet (imPut R p.2 (.slice (some ⟨bn, 0, none⟩) 1 cn)) sg = none := fun bn cn rn => by
   rw [htk]
   refine ⟨fun q hq => ?_, fun sg hsg => ?_⟩
   ·rcases List.mem_append.1 hq with hq | hq
    ·obtain ⟨b, c, r, h1, h2⟩ := hI q hq
     exact ⟨b, c, r, by rw [imPut_get, if_neg (hne q hq)]; exact h1, List.mem_cons_of_mem _ h2⟩
    ·rw [List.mem_singleton.1 hq]
     exact ⟨bn, cn, rn, by rw [imPut_get, if_pos rfl], List.mem_cons_self⟩
   ·rw [imPut_get, if_neg (Ne.symm (hsg p (List.mem_append_right _ (by simp))))]
    exact hN sg fun q hq => hsg q (List.mem_append_left _ hq)
  clear hI hN hne htk x0 hget hB hB' hS hBW
  repeat ((fail_if_success refine c_probe (id := 30) ?_); (fail_if_success refine c_probe1 (id := 30) ?_); first|refine lVa rfl rfl (by first|exact pEv rfl|exact vLd rfl (by repeat constructor) rfl (by rfl)|exact vL0 rfl (by assumption) rfl (by rfl)|exact v_index rfl rfl rfl rfl (by omega) (by omega) (by with_reducible first|exact idx4 _ _ _|fail)|fail) ?_|refine lNi ?_|refine cRg ?_|refine cSq ?_|refine xTh ?_|refine r_alloc rfl rfl rfl (by first|exact aggL|fail) (fun _ => ?_)|refine rSt rfl rfl rfl rfl rfl rfl rfl (by repeat constructor) (by rfl) ?_|refine c_true rfl ?_|refine c_false rfl ?_|refine c_dec_t rfl (by first|omega|fail) ?_|refine cBl ?_|refine cSk ?_|fail)
  refine c_perm (.swap _ _ _) ?_
  refine c_new 1 2 [(9, .new 1), (10, .app 2 none 1), (11, .upd 0)] [(9, [1]), (10, [2]), (11, [0])] [(6, 0), (10, 1)] rfl (by decide +kernel) rfl ?_
  repeat (first|refine e_val rfl rfl rfl rfl (v_imGet (k := p.2) (s := R) (out := .slice none 0 0) (ok := false) rfl rfl rfl rfl rfl (by repeat constructor) (by rw [hnone])) ?_|refine e_val rfl rfl rfl rfl (by first|exact pEv rfl|exact vLd rfl (by repeat constructor) rfl (by rfl)|fail) ?_|refine e_new rfl rfl rfl rfl (by first|exact n_buildSlice rfl rfl rfl rfl (by rfl)|fail) (fun _ => ?_)|fail)
  refine e_appG (e := 3) (xs := [.int .i64 p.1]) (n := 1) rfl rfl rfl rfl (by decide) rfl (by unfold maxLen; decide) rfl ?_ ?_
  ·exact a_appendN (ys := [.int .i64 p.1]) (m := 1) rfl rfl rfl rfl (news_own (by repeat constructor)) rfl rfl (by decide) (by decide) (by unfold maxLen; decide)
  intro bn cn rn hgn
  clear hgn
  refine e_imPut (s := R) (k := p.2) (v := .slice (some ⟨bn, 0, none⟩) 1 cn) rfl rfl rfl rfl rfl rfl rfl rfl ?_
  repeat ((fail_if_success refine c_probe (id := 31) ?_); (fail_if_success refine c_probe1 (id := 31) ?_); first|refine lVa rfl rfl (by first|exact v_add rfl rfl (by omega) (by omega)|exact pEv rfl|fail) ?_|refine lNi ?_|refine cRg ?_|refine xTh ?_|refine x_block ?_|refine e_nil rfl ?_|fail)
  refine x_perm (.cons _ (.cons _ (List.perm_middle (l₁ := [_, _])).symm)) ?_
  exact x_back ⟨k + 1, imPut R p.2 (.slice (some ⟨bn, 0, none⟩) 1 cn), (bn, .cells ⟨[.int .i64 p.1] ++ rn⟩ 3 (0, 0)) :: M⟩ ⟨hlt, hI2 bn cn rn⟩ (by simp only; omega) (by repeat (first|exact .nil|refine .cons rfl (by first|rfl|(congr 1; done)|exact congrArg _ (by omega)|(simp; done)) ?_)) (.keep rfl (.drop (.drop (.keep rfl (.keep rfl (.refl _))))))
 rw [List.take_of_length_le (by omega)] at hI hN
 have hI' := fun (_ : Unit) => hI
 have hN' := fun (_ : Unit) => hN
 clear hI hN
 repeat ((fail_if_success refine c_probe (id := 32) ?_); (fail_if_success refine c_probe1 (id := 32) ?_); first|refine lVa rfl rfl (by first|exact pEv rfl|fail) ?_|refine lNi ?_|refine cRg ?_|refine cSq ?_|refine xTh ?_|refine c_dec_f rfl (by first|omega|fail) ?_|refine c_exit ?_|refine xTe ?_|refine xBs ?_|fail)
 refine c_freeze (mem' := []) MSub.nil (fun W2 hW2 => ?_)
 have hB2 : Under W'.heap.size W' W2 := hW2.same.below (Nat.le_refl _) fun k hk => ⟨hk, by simp⟩
 have hB3 : Under w.heap.size w W2 := hB1.trans (hB2.mono hB1.size)
 have hRm : RmW W2 br ps := ⟨R, (hW2.own _ List.mem_cons_self).2, fun p hp => by
  obtain ⟨b, c, r, h1, h2⟩ := hI' () p hp
  exact ⟨b, c, h1, ext_pre (hW2.own _ (List.mem_cons_of_mem _ (List.mem_cons_of_mem _ h2))).2⟩, hN' ()⟩
 have hbi : W2.heap[bi]? = some (imO []) := (hW2.own _ (List.mem_cons_of_mem _ List.mem_cons_self)).2
 have hS2 := hS.later hB2
 have hB2' := hB'.later hB2
 clear hI' hN' hS hB' hW2 hB hW
 obtain ⟨R2, hR1, hR2, -⟩ := hRm
 obtain ⟨S, hS1, hS3⟩ := hS2
 have hDi : allBut W2 (List.map (·.1) ([] : List (Nat × Obj))) bi := ⟨lt_of_heap hbi, by simp⟩
 have hDr : allBut W2 (List.map (·.1) ([] : List (Nat × Obj))) br := ⟨lt_of_heap hR1, by simp⟩
 have hDm : allBut W2 (List.map (·.1) ([] : List (Nat × Obj))) bm := ⟨lt_of_heap hS1, by simp⟩
 repeat ((fail_if_success refine c_probe (id := 33) ?_); (fail_if_success refine c_probe1 (id := 33) ?_); first|refine lVa rfl rfl (by first|exact pEv rfl|fail) ?_|refine lNi ?_|refine cRg ?_|refine cSq ?_|refine xTh ?_|refine cBl ?_|fail)
 refine c_loop (ι := Nat) (fun k => k <= n) (fun k => [(0, .slice B n capB), (9, .map (some bm)), (10, .map (some bi)), (11, .map (some br)), (101, .slice B n capB), (102, .int .i64 n), (103, .int .i64 k)]) (fun _ => []) (fun k => n - k) 0 (Nat.zero_le _) (by repeat (first|exact .nil|refine .cons rfl (by first|rfl|(congr 1; done)|exact congrArg _ (by omega)|(simp; done)) ?_)) (by repeat (first|exact .nil|refine .keep (by first|rfl|assumption) ?_|refine .drop ?_|exact MSub.refl _)) ?_
 intro k hk
 by_cases hlt : k < n
 ·obtain ⟨p, b, o, hp, hpm, rfl, x0⟩ := hget W2 hB2' k hlt
  have x1 : Ext W2 (allBut W2 (List.map (·.1) ([] : List (Nat × Obj)))) _ _ _ := ⟨⟨x0.dom, by simp⟩, x0.cell⟩
  obtain ⟨bs, cs, g1, y0⟩ := hR2 p hpm
  have y1 : Ext W2 (allBut W2 (List.map (·.1) ([] : List (Nat × Obj)))) _ _ _ := ⟨⟨y0.dom, by simp⟩, y0.cell⟩
  obtain ⟨be, g2, g3⟩ := hS3 p hpm
  have hDe : allBut W2 (List.map (·.1) ([] : List (Nat × Obj))) be := ⟨lt_of_heap g3, by simp⟩
  clear x0 y0 hget hR2 hS3 hp
  repeat ((fail_if_success refine c_probe (id := 35) ?_); (fail_if_success refine c_probe1 (id := 35) ?_); first|refine lVa rfl rfl (by first|exact pEv rfl|exact vL0 rfl (by assumption) rfl (by rfl)|exact v_index rfl rfl rfl rfl (by omega) (by omega) (by with_reducible first|exact idx4 _ _ _|fail)|fail) ?_|refine lNi ?_|refine cRg ?_|refine cSq ?_|refine xTh ?_|refine r_alloc rfl rfl rfl (by first|exact aggL|fail) (fun _ => ?_)|refine rSt rfl rfl rfl rfl rfl rfl rfl (by repeat constructor) (by rfl) ?_|refine c_dec_t rfl (by first|omega|fail) ?_|refine cBl ?_|refine cSk ?_|fail)
  refine cSq ?_
  repeat (first|refine lVa rfl rfl (v_imGetG (k := p.2) (s := []) (out := .tuple ⟨[.int .i64 0, .bool false]⟩) (ok := true) rfl rfl rfl rfl rfl (.far hDi hbi) rfl) ?_|refine lVa rfl rfl (by first|exact pEv rfl|exact vLd rfl (by repeat constructor) rfl (by rfl)|fail) ?_|refine lNi ?_|refine cRg ?_|refine cSq ?_|refine xTh ?_|refine l_skip rfl rfl ?_|refine c_false rfl ?_|refine cSk ?_|fail)
  refine lVa rfl rfl (v_imGetG (k := p.2) (s := R2) (out := .slice (some ⟨bs, 0, none⟩) 1 cs) (ok := false) rfl rfl rfl rfl rfl (.far hDr hR1) (by rw [g1])) ?_
  repeat ((fail_if_success refine c_probe (id := 39) ?_); (fail_if_success refine c_probe1 (id := 39) ?_); first|refine lVa rfl rfl (by first|exact pEv rfl|fail) ?_|refine lNi ?_|refine xTh ?_|refine cBl ?_|fail)
  refine c_rounds 1 ?_
  repeat ((fail_if_success refine c_probe (id := 41) ?_); (fail_if_success refine c_probe1 (id := 41) ?_); first|refine lVa rfl rfl (by first|exact pEv rfl|exact vL0 rfl (by assumption) rfl (by rfl)|exact v_index rfl rfl rfl rfl (by omega) (by omega) (by with_reducible first|exact idx5 _|fail)|fail) ?_|refine lNi ?_|refine cRg ?_|refine cSq ?_|refine xTh ?_|refine c_true rfl ?_|refine cBl ?_|refine cSk ?_|fail)
  repeat (first|refine lVa rfl rfl (v_imGetG (k := p.1) (s := S) (out := .map (some be)) (ok := false) rfl rfl rfl rfl rfl (.far hDm hS1) (by rw [g2])) ?_|refine lVa rfl rfl (v_imGetG (k := p.1) (s := []) (out := .bool false) (ok := false) rfl rfl rfl rfl rfl (.far hDe g3) rfl) ?_|refine lVa rfl rfl (by first|exact v_add rfl rfl (by omega) (by omega)|exact pEv rfl|exact vLd rfl (by repeat constructor) rfl (by rfl)|fail) ?_|refine lNi ?_|refine cRg ?_|refine cSq ?_|refine xTh ?_|refine c_false rfl ?_|refine cSk ?_|refine c_exit ?_|refine xTe ?_|refine x_block ?_|refine xBs ?_|fail)
  exact x_back (k + 1) hlt (by omega) (by repeat (first|exact .nil|refine .cons rfl (by first|rfl|(congr 1; done)|exact congrArg _ (by omega)|(simp; done)) ?_)) (by repeat (first|exact .nil|refine .keep (by first|rfl|assumption) ?_|refine .drop ?_|exact MSub.refl _))
 have hbl : ∀ {mem : List (Nat × Obj)} {V : World}, SatW W2 (allBut W2 (List.map (·.1) ([] : List (Nat × Obj)))) noJ mem V -> Under W2.heap.size W2 V := fun hV => hV.same.below (Nat.le_refl _) fun k hk => ⟨hk, by simp⟩
 clear hR2 hS3 hget
 repeat ((fail_if_success refine c_probe (id := 45) ?_); (fail_if_success refine c_probe1 (id := 45) ?_); first|refine lVa rfl rfl (by first|exact pEv rfl|fail) ?_|refine lNi ?_|refine cRg ?_|refine cSq ?_|refine xTh ?_|refine c_dec_f rfl (by first|omega|fail) ?_|refine c_exit ?_|refine xTe ?_|refine xBs ?_|fail)
 repeat (first|refine lVa rfl rfl (by first|exact pEv rfl|fail) ?_|refine lNi ?_|refine cRg ?_|refine cSq ?_|refine xTh ?_|refine c_ret ?_|fail)
 exact x_ret rfl rfl (by repeat constructor) rfl (fun V hV => ⟨rfl, hB3.trans ((hbl hV).mono hB3.size)⟩)
end R41
end Go.Proofs
