/- Rooms: Signs, walked. -/
import Derived.Test.YtajnkdgbpffinaaGreatRmJ
import Derived.Test.YtajnkdgbpffinaaGreatPcB
set_option maxRecDepth 100000
set_option maxHeartbeats 400000000
set_option linter.unusedSectionVars false
set_option linter.unusedVariables false
set_option linter.unusedSimpArgs false
namespace Go.Proofs
open Go.RowKit Go.Kin Go.Kin.Cl
namespace R41
structure CuF where
 k : Nat
 b6 : Nat
 Ds : List Nat
structure CuT where
 k : Nat
 b : Nat
 c : Nat
 r : List Value
 Ds : List Nat
theorem current28_calls (bm bset br : Nat) (X : Option Addr) (cX : Nat) (l : List Sg) (ps : List (Int × Int)) (w : World) (hS : StS w bm bset br ps) (hA : Kin.At w X 14 (l.map sgE)) (hl : l.length <= 4096) :
  Calls Tryz.prog 28 ⟨[.agg ⟨stV4 bm bset br X l.length cX⟩]⟩ w fun e w' => ∃ i : Option Addr × Nat, e = .returned (.tuple ⟨[.slice i.1 (delS (ps.map (·.2)) l).length i.2, .int .i64 0]⟩) /\ Under w.heap.size w w' /\ Kin.At w' i.1 14 ((delS (ps.map (·.2)) l).map sgE) := by
 obtain ⟨n, hn⟩ : ∃ n, l.length = n := ⟨_, rfl⟩
 have hex := fun sign W (h : Under w.heap.size w W) => exists64_calls bm bset br X n cX ps sign W (hS.later h)
 have hset := hS.set
 obtain ⟨D, hD⟩ : ∃ D, ps.map (·.2) = D := ⟨_, rfl⟩
 rw [hD] at hex ⊢
 rw [hn] at hl ⊢
 have hfl : ∀ k, (delS D (l.take k)).length <= n := fun k => Nat.le_trans (List.length_filter_le _ _) (by rw [List.length_take]; omega)
 refine fEn Tryz.func28 rfl Tryz.ntmps28 rfl rfl (sWn w) ?_
 repeat ((fail_if_success refine c_probe (id := 2) ?_); (fail_if_success refine c_probe1 (id := 2) ?_); first|refine lVa rfl rfl (by first|exact pEv rfl|exact vLd rfl (by repeat constructor) rfl (by rfl)|fail) ?_|refine lNi ?_|refine cRg ?_|refine cSq ?_|refine xTh ?_|refine r_box rfl rfl rfl rfl (fun _ => ?_)|refine cBl ?_|fail)
 rename_i b1
 refine c_loopD (ι := CuT) (fun s => s.k <= n /\ gOK sgE 14 (delS D (l.take s.k)) s.c s.r) (fun s => s.Ds.map Kin.mark) (fun _ => noJ)
  (fun s => [(1, .pointer (some ⟨b1, 0, none⟩)), (2, gSl (delS D (l.take s.k)) s.b s.c), (9, .slice X n cX), (10, .int .i64 n), (11, .int .i64 s.k)])
  (fun s => (b1, .cells ⟨stV4 bm bset br X n cX⟩ 74 (0, 0)) :: (gM sgE 32 (delS D (l.take s.k)) s.b s.r ++ s.Ds.map opn)) (fun s => n - s.k) ⟨0, 0, 0, [], []⟩ ⟨Nat.zero_le _, fun h => absurd rfl h⟩ rfl rfl (by repeat (first|exact .nil|refine .cons rfl (by first|rfl|(congr 1; done)|exact congrArg _ (by omega)|(simp; done)) ?_)) (by repeat (first|exact .nil|refine .keep (by first|rfl|assumption) ?_|refine .drop ?_|exact MSub.refl _)) ?_
 rintro ⟨k, b, c, r, Ds⟩ ⟨hk, hg⟩
 simp only at hk hg ⊢
 by_cases hlt : k < n
 ·obtain ⟨s, hs⟩ : ∃ s, l[k]? = some s := ⟨_, List.getElem?_eq_getElem (by omega)⟩
  obtain ⟨bb, o, rfl, hcS⟩ := hA k (sgE s) (by rw [List.getElem?_map, hs]; rfl)
  have x1 := ext_of hcS
  have htk : delS D (l.take (k + 1)) = delS D (l.take k) ++ if D.contains s.id then [] else [s] := by
   obtain ⟨h1, h2⟩ := List.getElem?_eq_some_iff.1 hs
   unfold delS
   rw [List.take_succ_eq_append_getElem h1, h2, List.filter_append, List.filter_cons]
   cases D.contains s.id <;> rfl
  have hl2 := hfl k
  obtain ⟨L, hL⟩ : ∃ L, delS D (l.take k) = L := ⟨_, rfl⟩
  rw [hL] at htk hg hl2 ⊢
  have hg' := fun (_ : Unit) => hg
  have hexs := hex s.id
  clear hg hex
  obtain ⟨GM, hGM⟩ : ∃ GM, gM sgE 32 L b r = GM := ⟨_, rfl⟩
  rw [hGM]
  cases hq : D.contains s.id with
  | true =>
   rw [hq] at hexs htk
   rw [if_pos rfl, List.append_nil] at htk
   repeat ((fail_if_success refine c_probe (id := 4) ?_); (fail_if_success refine c_probe1 (id := 4) ?_); first|refine lVa rfl rfl (by first|exact pEv rfl|exact vL0 rfl (by assumption) rfl (by rfl)|exact v_index rfl rfl rfl rfl (by omega) (by omega) (by with_reducible first|exact idx4 _ _ _|fail)|fail) ?_|refine lNi ?_|refine cRg ?_|refine cSq ?_|refine xTh ?_|refine r_alloc rfl rfl rfl (by first|exact aggL|fail) (fun _ => ?_)|refine rSt rfl rfl rfl rfl rfl rfl rfl (by repeat constructor) (by rfl) ?_|refine c_dec_t rfl (by first|omega|fail) ?_|refine cBl ?_|refine cSk ?_|fail)
   refine cSq ?_
   repeat (first|refine lVa rfl rfl (by first|exact pEv rfl|exact vLd rfl (by repeat constructor) rfl (by rfl)|fail) ?_|refine cRg ?_|refine cSq ?_|fail)
   refine r_call rfl rfl rfl (fun W hW => hexs W hW.below) ?_
   repeat ((fail_if_success refine c_probe (id := 14) ?_); (fail_if_success refine c_probe1 (id := 14) ?_); first|refine lVa rfl rfl (by first|exact v_add rfl rfl (by omega) (by omega)|exact pEv rfl|fail) ?_|refine lNi ?_|refine cRg ?_|refine xTh ?_|refine c_true rfl ?_|refine c_exit ?_|refine xTe ?_|refine xBs ?_|fail)
   refine x_backD ⟨k + 1, b, c, r, Ds⟩ ⟨hlt, by rw [htk]; exact hg' ()⟩ (by simp only; omega) rfl rfl ?_ ?_
   ·simp only; rw [htk]; exact (by repeat (first|exact .nil|refine .cons rfl (by first|rfl|(congr 1; done)|exact congrArg _ (by omega)|(simp; done)) ?_))
   ·simp only; rw [htk, hGM]; exact .drop (.refl _)
  | false =>
   rw [hq] at hexs htk
   rw [if_neg (by decide)] at htk
   repeat ((fail_if_success refine c_probe (id := 4) ?_); (fail_if_success refine c_probe1 (id := 4) ?_); first|refine lVa rfl rfl (by first|exact pEv rfl|exact vL0 rfl (by assumption) rfl (by rfl)|exact v_index rfl rfl rfl rfl (by omega) (by omega) (by with_reducible first|exact idx4 _ _ _|fail)|fail) ?_|refine lNi ?_|refine cRg ?_|refine cSq ?_|refine xTh ?_|refine r_alloc rfl rfl rfl (by first|exact aggL|fail) (fun _ => ?_)|refine rSt rfl rfl rfl rfl rfl rfl rfl (by repeat constructor) (by rfl) ?_|refine c_dec_t rfl (by first|omega|fail) ?_|refine cBl ?_|refine cSk ?_|fail)
   refine cSq ?_
   repeat (first|refine lVa rfl rfl (by first|exact pEv rfl|exact vLd rfl (by repeat constructor) rfl (by rfl)|fail) ?_|refine cRg ?_|refine cSq ?_|fail)
   refine r_call rfl rfl rfl (fun W hW => hexs W hW.below) ?_
   clear hexs
   repeat ((fail_if_success refine c_probe (id := 6) ?_); (fail_if_success refine c_probe1 (id := 6) ?_); first|refine lVa rfl rfl (by first|exact pEv rfl|fail) ?_|refine lNi ?_|refine cRg ?_|refine cSq ?_|refine xTh ?_|refine r_alloc rfl rfl rfl (by first|exact aggL|fail) (fun _ => ?_)|refine rSt rfl rfl rfl rfl rfl rfl rfl (by repeat constructor) (by rfl) ?_|refine c_false rfl ?_|refine cBl ?_|refine cSk ?_|fail)
   rename_i b5 b6
   refine c_loopD (ι := CuF) (fun s => 1 <= s.k /\ s.k <= 10) (fun s => s.Ds.map Kin.mark) (fun _ => noJ)
    (fun s => [(1, .pointer (some ⟨b1, 0, none⟩)), (2, gSl L b c), (5, .pointer (some ⟨b5, 0, none⟩)), (6, .pointer (some ⟨s.b6, 0, none⟩)), (9, .slice (some ⟨bb, o, none⟩) n cX), (10, .int .i64 n), (11, .int .i64 k)])
    (fun t => (t.b6, .cells ⟨[.int .i64 t.k]⟩ 3 (0, 0)) :: (b5, .cells ⟨sgE s⟩ 32 (0, 0)) :: (b1, .cells ⟨stV4 bm bset br (some ⟨bb, o, none⟩) n cX⟩ 74 (0, 0)) :: (GM ++ t.Ds.map opn)) (fun s => 10 - s.k) ⟨1, b6, Ds⟩ ⟨Nat.le_refl _, Nat.le_of_ble_eq_true rfl⟩ rfl rfl (by repeat (first|exact .nil|refine .cons rfl (by first|rfl|(congr 1; done)|exact congrArg _ (by omega)|(simp; done)) ?_)) (by repeat (first|exact .nil|refine .keep (by first|rfl|assumption) ?_|refine .drop ?_|exact MSub.refl _)) ?_
   rintro ⟨j, b6', Ds2⟩ ⟨hj1, hj2⟩
   simp only at hj1 hj2 ⊢
   by_cases hj : j <= 9
   ·repeat ((fail_if_success refine c_probe (id := 8) ?_); (fail_if_success refine c_probe1 (id := 8) ?_); first|refine lVa rfl rfl (by first|exact pEv rfl|exact vLd rfl (by repeat constructor) rfl (by rfl)|fail) ?_|refine lNi ?_|refine cRg ?_|refine cSq ?_|refine xTh ?_|refine c_dec_t rfl (by first|omega|fail) ?_|refine cBl ?_|refine cSk ?_|fail)
    refine cSq ?_
    repeat (first|refine lVa rfl rfl (by first|exact pEv rfl|exact vLd rfl (by repeat constructor) rfl (by rfl)|fail) ?_|refine cRg ?_|fail)
    refine r_callF (pre := []) rfl rfl rfl (List.Perm.refl _) (fun W hW _ _ => latest65_calls bm bset br _ n cX s.id j W) ?_
    rintro ⟨q1, q2, q3⟩
    simp only [List.cons_append, List.nil_append]
    repeat (first|refine lNi ?_|refine xTh ?_|refine cBl ?_|fail)
    refine c_range (fun _ : Unit => []) [] (fun _ => False) [] (ι := Unit) (fun _ => 0) (fun _ => True) (fun _ => (b6', .cells ⟨[.int .i64 j]⟩ 3 (0, 0)) :: (b5, .cells ⟨sgE s⟩ 32 (0, 0)) :: (b1, .cells ⟨stV4 bm bset br (some ⟨bb, o, none⟩) n cX⟩ 74 (0, 0)) :: (GM ++ Ds2.map opn)) (fun _ _ => False) () rfl
     (fun W W1 hW hs => latest_it (sign := s.id) (field := j) (hs.obj (hW.own (q1, _) (List.mem_cons_of_mem _ (List.mem_cons_of_mem _ List.mem_cons_self))).2 trivial) (hs.obj (hW.own (q2, _) (List.mem_cons_of_mem _ List.mem_cons_self)).2 trivial) (hs.obj (hW.own (q3, _) List.mem_cons_self).2 trivial) (hs.obj (hW.same.obj hset (lt_of_heap hset)) trivial))
     (fun b hb => hb.elim) (fun x hx => by cases hx) (by decide) rfl trivial (by repeat (first|exact .nil|refine .keep (by first|rfl|assumption) ?_|refine .drop ?_|exact MSub.refl _)) (env' := []) .nil (fun i _ hk => absurd hk (Nat.not_lt_zero _)) ?_ (fun _ _ _ h => h.elim)
    rintro B - - -
    simp only [List.nil_append]
    repeat (first|refine lVa rfl rfl (by first|exact v_add rfl rfl (by omega) (by omega)|exact vLd rfl (by repeat constructor) rfl (by rfl)|fail) ?_|refine lNi ?_|refine cRg ?_|refine cSq ?_|refine xTh ?_|refine r_alloc rfl rfl rfl (by first|exact aggL|fail) (fun _ => ?_)|refine rSt rfl rfl rfl rfl rfl rfl rfl (by repeat constructor) (by rfl) ?_|refine x_block ?_|fail)
    rename_i b6n
    refine x_perm (.cons _ (List.perm_middle (l₁ := (b6', _) :: (b5, _) :: (b1, _) :: GM)).symm) ?_
    exact x_backD ⟨j + 1, b6n, B :: Ds2⟩ ⟨by simp only; omega, by simp only; omega⟩ (by simp only; omega) rfl rfl (by repeat (first|exact .nil|refine .cons rfl (by first|rfl|(congr 1; done)|exact congrArg _ (by omega)|(simp; done)) ?_)) (.keep rfl (.drop (.refl _)))
   rw [<- hGM]
   repeat ((fail_if_success refine c_probe (id := 13) ?_); (fail_if_success refine c_probe1 (id := 13) ?_); first|refine lVa rfl rfl (by first|exact pEv rfl|exact vLd rfl (by repeat constructor) rfl (by rfl)|fail) ?_|refine lNi ?_|refine cRg ?_|refine cSq ?_|refine xTh ?_|refine r_buildSlice rfl rfl rfl rfl rfl rfl (by rfl) (fun _ => ?_)|refine c_dec_f rfl (by first|omega|fail) ?_|refine c_exit ?_|refine xTe ?_|refine xBs ?_|fail)
   skip
   refine r_appendZ (f := sgE) (e := 32) (sz := 14) (xs := L) (ys := [s]) (m := 1) rfl rfl rfl rfl rfl rfl rfl (.inr ⟨_, 0, rfl, news_own (by repeat constructor)⟩) (List.perm_append_comm_assoc [_, _, _, _] (gM sgE 32 L b r) _) (hg' ()) sgE_rows rfl rfl (by omega) (by unfold maxLen; omega) (fun b8 c8 r8 hg8 => ?_)
   have hg8' := fun (_ : Unit) => hg8
   clear hg8
   refine l_perm (List.perm_append_comm_assoc _ [_, _, _, _] _) ?_
   simp only [List.cons_append, List.nil_append]
   repeat ((fail_if_success refine c_probe (id := 14) ?_); (fail_if_success refine c_probe1 (id := 14) ?_); first|refine lVa rfl rfl (by first|exact v_add rfl rfl (by omega) (by omega)|exact pEv rfl|fail) ?_|refine lNi ?_|refine cRg ?_|refine xTh ?_|refine x_block ?_|fail)
   refine x_backD ⟨k + 1, b8, c8, r8, Ds2⟩ ⟨hlt, by rw [htk]; exact hg8' ()⟩ (by simp only; omega) rfl rfl ?_ ?_
   ·simp only; rw [htk]; exact (by repeat (first|exact .nil|refine .cons rfl (by first|rfl|(congr 1; done)|exact congrArg _ (by omega)|(simp; done)) ?_))
   ·simp only; rw [htk]; exact .drop (.drop (.drop (.keep rfl (.refl _))))
 rw [List.take_of_length_le (by omega)] at hg ⊢
 have hln := hfl n
 rw [List.take_of_length_le (by omega)] at hln
 clear hex hfl hA hS
 obtain ⟨L, hL⟩ : ∃ L, delS D l = L := ⟨_, rfl⟩
 rw [hL] at hg hln ⊢
 by_cases hne : L = []
 ·subst hne
  repeat ((fail_if_success refine c_probe (id := 15) ?_); (fail_if_success refine c_probe1 (id := 15) ?_); first|refine lVa rfl rfl (by first|exact pEv rfl|fail) ?_|refine lNi ?_|refine cRg ?_|refine cSq ?_|refine xTh ?_|refine c_dec_f rfl (by first|omega|fail) ?_|refine c_exit ?_|refine xTe ?_|refine xBs ?_|fail)
  repeat (first|refine lVa rfl rfl (by first|exact pEv rfl|fail) ?_|refine lNi ?_|refine cRg ?_|refine cSq ?_|refine xTh ?_|refine c_false rfl ?_|refine cSk ?_|refine c_ret ?_|fail)
  exact x_rets (Ds := Ds) rfl rfl (.drop .all) rfl (by repeat constructor) rfl (fun W hW => ⟨(none, 0), rfl, hW.below, fun i cs hi => by simp at hi⟩)
 ·rw [gSl_ne hne, gM_ne hne]
  clear hg
  repeat ((fail_if_success refine c_probe (id := 15) ?_); (fail_if_success refine c_probe1 (id := 15) ?_); first|refine lVa rfl rfl (by first|exact pEv rfl|fail) ?_|refine lNi ?_|refine cRg ?_|refine cSq ?_|refine xTh ?_|refine c_dec_f rfl (by first|omega|fail) ?_|refine c_exit ?_|refine xTe ?_|refine xBs ?_|fail)
  repeat (first|refine lVa rfl rfl (by first|exact pEv rfl|fail) ?_|refine lNi ?_|refine cRg ?_|refine cSq ?_|refine xTh ?_|refine c_dec_f rfl (by first|omega|fail) ?_|refine cSk ?_|refine c_ret ?_|fail)
  exact x_rets (Ds := Ds) rfl rfl (.drop (.keep .all)) rfl (by repeat constructor) rfl (fun W hW => ⟨(some ⟨b, 0, none⟩, c), rfl, hW.below, at_own hW List.mem_cons_self sgE_len⟩)
end R41
end Go.Proofs

set_option maxRecDepth 100000
set_option maxHeartbeats 400000000
namespace Go.Proofs
open Go.RowKit Go.Kin Go.Kin.Cl
namespace R41
theorem Signs9_calls (B : Option Addr) (capB : Nat) (ps : List (Int × Int)) (A : Option Addr) (cap : Nat) (l : List Sg) (AV : Option Addr) (cv : Nat) (w : World) (hB : Kin.At w B 19 (ps.map pE)) (hP : Sto ps) (hA : Kin.At w A 14 (l.map sgE)) (hz : A = none -> cap = 0) (hwf : ∀ s ∈ l, s.wf) (hl : l.length <= 4096) (hok : chkS l = 0)
  (hV : InZ w AV cv (ps.map (·.1))) (hin : ∀ p ∈ ps, ∃ s ∈ l, s.id = p.2) :
  Calls Tryz.prog 9 ⟨[.slice B ps.length capB, .slice A l.length cap, .slice AV ps.length cv]⟩ w fun e w' => ∃ i : Option Addr × Nat, e = .returned (.tuple ⟨[.slice i.1 (delS (ps.map (·.2)) l).length i.2, .int .i64 0]⟩) /\ Under w.heap.size w w' /\ Kin.At w' i.1 14 ((delS (ps.map (·.2)) l).map sgE) := by
 have hr := fun W (h : Under w.heap.size w W) => read27_calls B capB ps A cap l AV cv W (hB.later h) hP (hA.later h) hz hwf hl hok (hV.later h) hin
 have hcu := fun bm bset br X cX W (h1 : StS W bm bset br ps) h2 => current28_calls bm bset br X cX l ps W h1 h2 hl
 obtain ⟨n, hn⟩ : ∃ n, l.length = n := ⟨_, rfl⟩
 obtain ⟨m, hm⟩ : ∃ m, ps.length = m := ⟨_, rfl⟩
 rw [hm, hn] at hr
 rw [hn] at hcu
 rw [hm, hn]
 refine fEn Tryz.func9 rfl Tryz.ntmps9 rfl rfl (sWn w) ?_
 repeat ((fail_if_success refine c_probe (id := 1) ?_); (fail_if_success refine c_probe1 (id := 1) ?_); first|refine lVa rfl rfl (by first|exact pEv rfl|fail) ?_|refine lNi ?_|refine cRg ?_|refine cSq ?_|refine xTh ?_|fail)
 refine cSq ?_
 repeat (first|refine lVa rfl rfl (by first|exact pEv rfl|fail) ?_|refine cRg ?_|fail)
 refine l_callF (ι := (Nat × Nat × Nat) × Option Addr × Nat) (v := fun i => .tuple ⟨[.agg ⟨[.map (some i.1.1), .map (some i.1.2.1), .map (some i.1.2.2), .slice i.2.1 n i.2.2]⟩, .int .i64 0]⟩) (mem' := []) (fun i W W' => W'.heap[i.1.2.1]? = some (.map ⟨[]⟩ 0) /\ RmW W' i.1.2.2 ps /\ Kin.At W' i.2.1 14 (l.map sgE)) rfl rfl rfl .nil (fun W hW => hr W hW.below) ?_
 rintro ⟨⟨bm, bset, br⟩, X, cX⟩ W W' hW hBW hW' ⟨h1, h2, h3⟩
 simp only at h1 h2 h3 ⊢
 have hB1 : Under w.heap.size w W' := hW.below.trans (hBW.mono hW.below.size)
 have hbl : ∀ {mem : List (Nat × Obj)} {V : World}, SatW W' (allBut W' (List.map (·.1) ([] : List (Nat × Obj)))) noJ mem V -> Under W'.heap.size W' V := fun hV => hV.same.below (Nat.le_refl _) fun k hk => ⟨hk, by simp⟩
 have hcu2 := fun V (h : Under W'.heap.size W' V) => hcu bm bset br X cX V (StS.later ⟨h1, h2⟩ h) (h3.later h)
 clear hr hcu hB hA hV h2 hin
 repeat ((fail_if_success refine c_probe (id := 4) ?_); (fail_if_success refine c_probe1 (id := 4) ?_); first|refine lVa rfl rfl (by first|exact pEv rfl|fail) ?_|refine lNi ?_|refine cRg ?_|refine cSq ?_|refine xTh ?_|refine r_alloc rfl rfl rfl (by first|exact aggL|fail) (fun _ => ?_)|refine rSt rfl rfl rfl rfl rfl rfl rfl (by repeat constructor) (by rfl) ?_|refine c_false rfl ?_|refine cSk ?_|fail)
 refine cSq ?_
 repeat (first|refine lVa rfl rfl (by first|exact vLd rfl (by repeat constructor) rfl (by rfl)|fail) ?_|refine cRg ?_|fail)
 refine l_callF (ι := Option Addr × Nat) (v := fun i => .tuple ⟨[.slice i.1 (delS (ps.map (·.2)) l).length i.2, .int .i64 0]⟩) (mem' := []) (fun i V V' => Kin.At V' i.1 14 ((delS (ps.map (·.2)) l).map sgE)) rfl rfl rfl .nil (fun V hV => hcu2 V (hbl hV)) ?_
 rintro ⟨Y, cY⟩ V V' hV hBV hV' hY
 simp only at hY ⊢
 have hB2 : Under w.heap.size w V' := by
  have h5 := hB1.trans ((hbl hV).mono hB1.size)
  exact h5.trans (hBV.mono h5.size)
 repeat (first|refine lVa rfl rfl (by first|exact pEv rfl|fail) ?_|refine lNi ?_|refine xTh ?_|refine c_ret ?_|fail)
 exact x_ret rfl rfl (by repeat constructor) rfl (fun Z hZ => by
  have hb : Under V'.heap.size V' Z := hZ.same.below (Nat.le_refl _) fun k hk => ⟨hk, by simp⟩
  exact ⟨(Y, cY), rfl, hB2.trans (hb.mono hB2.size), hY.later hb⟩)
end R41
end Go.Proofs

set_option maxRecDepth 100000
set_option maxHeartbeats 400000000
namespace Go.Proofs
open Go.RowKit Go.Kin Go.Kin.Cl
namespace R41
def ed0 : Ed := ⟨none, 0, []⟩
theorem ed0_ok (w : World) : ed0.OK w := ⟨fun i cs hi => by simp [ed0] at hi, by decide, fun s hs => by simp [ed0] at hs, fun s hs => by simp [ed0] at hs, fun x hx => by simp [ed0] at hx, by decide⟩
theorem sane4_calls (w : World) : Calls Tryz.prog 4 ⟨[]⟩ w fun e w' => e = .returned (.bool true) /\ Under w.heap.size w w' := by
 have h1 : alwB [] 0 [1] 0 0 = true := by rw [alwB_ok (asked_nil (by decide) (by decide)), alw_nil]; rfl
 have h2 : alwR [] 0 [1] 0 0 = [] := by rw [alwR_ok (asked_nil (by decide) (by decide)), alw_nil]
 have h3 : askedV [] 0 0 = 0 := asked_nil (by decide) (by decide)
 have hal := fun (b : Nat) W (hA : Kin.At W (some ⟨b, 0, none⟩) 1 ([1].map inE)) => Allowed14_calls none 0 [] 0 (some ⟨b, 0, none⟩) 1 [1] 0 0 W (fun i cs hi => by simp at hi) (by decide) hA okD_1
 rw [h1, h2, h3] at hal
 have hne : nearV [] [] 0 = .tuple ⟨[.bool true, .int .i64 0]⟩ := by
  have : simB (essC []) (essC []) 0 = true := by decide +kernel
  unfold nearV
  rw [if_pos (by decide), this]
 have hnr := fun W => Near12_calls ed0 ed0 0 W (ed0_ok W) (ed0_ok W)
 refine fEn Tryz.func4 rfl Tryz.ntmps4 rfl rfl (sWn w) ?_
 repeat ((fail_if_success refine c_probe (id := 1) ?_); (fail_if_success refine c_probe1 (id := 1) ?_); first|refine lVa rfl rfl (by first|exact pEv rfl|fail) ?_|refine lNi ?_|refine cRg ?_|refine cSq ?_|refine xTh ?_|fail)
 refine cSq ?_
 repeat (first|refine cRg ?_|refine r_buildSlice rfl rfl rfl rfl rfl rfl (by rfl) (fun _ => ?_)|fail)
 rename_i bq
 refine r_callF (pre := []) rfl rfl rfl (List.Perm.refl _) (fun W hW _ _ => hal bq W (at_own (l := [1]) (f := inE) (rest := []) hW List.mem_cons_self (fun x => rfl))) ?_
 rintro ⟨b1, c1, r1⟩
 show RunL _ _ _ _ _ _ ((8, .tuple ⟨[.bool true, .slice none 0 0, .int .i64 0]⟩) :: _) ([] ++ _)
 rw [List.nil_append]
 repeat ((fail_if_success refine c_probe (id := 2) ?_); (fail_if_success refine c_probe1 (id := 2) ?_); first|refine lVa rfl rfl (by first|exact pEv rfl|fail) ?_|refine lNi ?_|refine xTh ?_|fail)
 refine cSq ?_
 repeat (first|refine cRg ?_|fail)
 refine r_call rfl rfl rfl (fun W hW => hnr W) ?_
 show RunL _ _ _ _ _ _ ((13, nearV [] [] 0) :: _) _
 rw [hne]
 repeat (first|refine lVa rfl rfl (by first|exact pEv rfl|fail) ?_|refine lNi ?_|refine cRg ?_|refine cSq ?_|refine xTh ?_|refine c_ret ?_|fail)
 exact x_ret rfl rfl (by repeat constructor) rfl (fun W hW => ⟨rfl, hW.below⟩)
end R41
end Go.Proofs
