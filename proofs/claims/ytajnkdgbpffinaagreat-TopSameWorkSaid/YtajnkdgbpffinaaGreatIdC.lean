/- Sorting signs by the shelf's contract. -/
import Derived.Test.YtajnkdgbpffinaaGreatPcF
import Derived.Test.YtajnkdgbpffinaaGreatSrA
import Derived.Shelf.SlSortCmp.WholeK
import Derived.Shelf.SlSortCmp.NoneTotal
import Derived.Test.YtajnkdgbpffinaaGreatRmB
set_option maxRecDepth 100000
set_option maxHeartbeats 400000000
set_option linter.unusedSectionVars false
set_option linter.unusedVariables false
set_option linter.unusedSimpArgs false
namespace Go.Proofs
open Go.RowKit Go.Kin Go.Kin.Cl Go.Shelf Go.Sort
namespace R41
def renS19 : Ren := ⟨fun i => if i = 6 then 19 else if i = 15 then 44 else if i = 14 then 43 else if i = 28 then 81 else if i = 29 then 82 else if i = 20 then 73 else if i = 21 then 74 else if i = 22 then 75 else if i = 23 then 76 else if i = 24 then 77 else if i = 25 then 78 else if i = 26 then 79 else if i = 27 then 80 else if i = 46 then 100 else if i = 47 then 101 else if i = 48 then 102 else if i = 49 then 103 else if i = 50 then 104 else if i = 57 then 123 else i, fun i => if i = 22 then 22 else if i = 24 then 32 else if i = 25 then 61 else if i = 3 then 3 else if i = 39 then 103 else if i = 0 then 0 else if i = 53 then 23 else if i = 55 then 144 else if i = 4 then 4 else if i = 46 then 137 else if i = 45 then 136 else if i = 50 then 82 else if i = 5 then 5 else if i = 9 then 9 else if i = 66 then 165 else if i = 70 then 147 else if i = 76 then 182 else if i = 77 then 183 else i, fun i => i⟩
theorem layS19 : SlLaysF0.n6 Tryz.prog renS19 where
 mixed := by kernel_rfl
 f6 := ⟨"slices.SortFunc[[]kinesphere/api.Sign,kinesphere/api.Sign]", by decide, by kernel_rfl⟩
 f14 := ⟨"slices.pdqsortCmpFunc[kinesphere/api.Sign]", by decide, by kernel_rfl⟩
 f15 := by kernel_rfl
 f20 := ⟨"slices.insertionSortCmpFunc[kinesphere/api.Sign]", by decide, by kernel_rfl⟩
 f21 := ⟨"slices.heapSortCmpFunc[kinesphere/api.Sign]", by decide, by kernel_rfl⟩
 f22 := ⟨"slices.breakPatternsCmpFunc[kinesphere/api.Sign]", by decide, by kernel_rfl⟩
 f23 := ⟨"slices.choosePivotCmpFunc[kinesphere/api.Sign]", by decide, by kernel_rfl⟩
 f24 := ⟨"slices.reverseRangeCmpFunc[kinesphere/api.Sign]", by decide, by kernel_rfl⟩
 f25 := ⟨"slices.partialInsertionSortCmpFunc[kinesphere/api.Sign]", by decide, by kernel_rfl⟩
 f26 := ⟨"slices.partitionEqualCmpFunc[kinesphere/api.Sign]", by decide, by kernel_rfl⟩
 f27 := ⟨"slices.partitionCmpFunc[kinesphere/api.Sign]", by decide, by kernel_rfl⟩
 f28 := by kernel_rfl
 f29 := by kernel_rfl
 f46 := ⟨"slices.siftDownCmpFunc[kinesphere/api.Sign]", by decide, by kernel_rfl⟩
 f47 := by kernel_rfl
 f48 := by kernel_rfl
 f49 := ⟨"slices.medianAdjacentCmpFunc[kinesphere/api.Sign]", by decide, by kernel_rfl⟩
 f50 := ⟨"slices.medianCmpFunc[kinesphere/api.Sign]", by decide, by kernel_rfl⟩
 f57 := ⟨"slices.order2CmpFunc[kinesphere/api.Sign]", by decide, by kernel_rfl⟩
 t0 := Tryz.underlying0
 a0 := Tryz.isAgg0
 z0 := Tryz.sizeOf0
 v0 := Tryz.zeroValue0
 t3 := Tryz.underlying3
 a3 := Tryz.isAgg3
 z3 := Tryz.sizeOf3
 v3 := Tryz.zeroValue3
 t4 := Tryz.underlying4
 a4 := Tryz.isAgg4
 z4 := Tryz.sizeOf4
 v4 := Tryz.zeroValue4
 t5 := Tryz.underlying5
 a5 := Tryz.isAgg5
 z5 := Tryz.sizeOf5
 v5 := Tryz.zeroValue5
 t9 := Tryz.underlying9
 a9 := Tryz.isAgg9
 z9 := Tryz.sizeOf9
 v9 := Tryz.zeroValue9
 t22 := Tryz.underlying22
 a22 := Tryz.isAgg22
 z22 := Tryz.sizeOf22
 v22 := Tryz.zeroValue22
 t25 := Tryz.underlying61
 a25 := Tryz.isAgg61
 z25 := Tryz.sizeOf61
 v25 := Tryz.zeroValue61
 t39 := Tryz.underlying103
 a39 := Tryz.isAgg103
 z39 := Tryz.sizeOf103
 v39 := Tryz.zeroValue103
 t45 := Tryz.underlying136
 a45 := Tryz.isAgg136
 z45 := Tryz.sizeOf136
 v45 := Tryz.zeroValue136
 t46 := Tryz.underlying137
 a46 := Tryz.isAgg137
 z46 := Tryz.sizeOf137
 v46 := Tryz.zeroValue137
 t50 := Tryz.underlying82
 a50 := Tryz.isAgg82
 z50 := Tryz.sizeOf82
 v50 := Tryz.zeroValue82
 t53 := Tryz.underlying23
 a53 := Tryz.isAgg23
 z53 := Tryz.sizeOf23
 v53 := Tryz.zeroValue23
 t55 := Tryz.underlying144
 a55 := Tryz.isAgg144
 z55 := Tryz.sizeOf144
 v55 := Tryz.zeroValue144
 t66 := Tryz.underlying165
 a66 := Tryz.isAgg165
 z66 := Tryz.sizeOf165
 v66 := Tryz.zeroValue165
 t70 := Tryz.underlying147
 a70 := Tryz.isAgg147
 z70 := Tryz.sizeOf147
 v70 := Tryz.zeroValue147
 t76 := Tryz.underlying182
 a76 := Tryz.isAgg182
 z76 := Tryz.sizeOf182
 v76 := Tryz.zeroValue182
 t77 := Tryz.underlying183
 a77 := Tryz.isAgg183
 z77 := Tryz.sizeOf183
 v77 := Tryz.zeroValue183
theorem grow_of {W W' : World} (h : Under W.heap.size W W') : ∃ q os', W' = grow (W.drewN q) os' := by
 refine ⟨W'.drawn - W.drawn, W'.heap.extract W.heap.size W'.heap.size, ?_⟩
 have h1 := h.os; have h2 := h.tape; have h3 := h.output; have h4 := h.drawn; have h5 := h.size; have h6 := h.block
 have e1 : W'.heap = W.heap ++ W'.heap.extract W.heap.size W'.heap.size := by
  apply Array.ext'
  refine List.ext_getElem? fun t => ?_
  rw [Array.getElem?_toList, Array.getElem?_toList]
  by_cases ht : t < W.heap.size
  ·rw [h6 t ht, Array.getElem?_append_left ht]
  ·rw [Array.getElem?_append_right (by omega), Array.getElem?_extract]
   by_cases hq : t < W'.heap.size
   ·rw [if_pos (by omega)]; congr 1; omega
   ·rw [if_neg (by omega), Array.getElem?_eq_none (by omega)]
 obtain ⟨hp, tp, dr, o, ou⟩ := W
 obtain ⟨hp', tp', dr', o', ou'⟩ := W'
 simp only at h1 h2 h3 h4 e1
 subst h1 h2 h3
 show World.mk hp' tp' dr' o' ou' = World.mk (hp ++ hp'.extract hp.size hp'.size) tp' (dr + (dr' - dr)) o' ou'
 rw [Nat.add_sub_cancel' h4]
 exact congrArg (fun h => World.mk h tp' dr' o' ou') e1
theorem flatK_toList {α : Type} [Inhabited α] {enc : α -> List Value} {k : Nat} (hk0 : 0 < k) (hk : ∀ x, (enc x).length = k) (d : Array α) : (flatK enc k d).toList = (d.toList.map enc).flatten := by
 have hlen : ∀ l : List α, ((l.map enc).flatten).length = l.length * k := fun l => by
  induction l with
  | nil => simp
  | cons x l ih => rw [List.map_cons, List.flatten_cons, List.length_append, ih, hk, List.length_cons, Nat.add_mul]; omega
 refine List.ext_getElem? fun t => ?_
 rw [Array.getElem?_toList]
 by_cases ht : t < d.size * k
 ·have h1 : t < ((d.toList.map enc).flatten).length := by rw [hlen, Array.length_toList]; exact ht
  have h2 := List.getElem?_eq_getElem h1
  obtain ⟨r, h3, h4⟩ := flat_get hk0 _ t _ (fun r hr => by obtain ⟨x, _, rfl⟩ := List.mem_map.1 hr; exact hk x) h2
  have hq : t / k < d.size := by rw [Nat.div_lt_iff_lt_mul hk0]; exact ht
  rw [List.getElem?_map, Array.getElem?_toList, Array.getElem?_eq_getElem hq] at h3
  cases h3
  rw [h2, Array.getElem?_eq_getElem (by rw [size_flatK]; exact ht), <- getElem!_pos (flatK enc k d) t (by rw [size_flatK]; exact ht), get_flatK _ _ _ _ ht, getElem!_pos d _ hq]
  obtain ⟨h5, h6⟩ := List.getElem?_eq_some_iff.1 h4
  rw [getElem!_pos (enc d[t / k]) (t % k) h5, h6]
 ·rw [Array.getElem?_eq_none (by rw [size_flatK]; omega), List.getElem?_eq_none (by rw [hlen, Array.length_toList]; omega)]
theorem permIn_all {α : Type} [Inhabited α] {d d' : Array α} (h : PermIn 0 d.size d d') : d'.toList.Perm d.toList := by
 obtain ⟨h1, _, h3⟩ := h
 have e1 : d'.extract 0 d.size = d' := by rw [<- h1]; simp
 have e2 : d.extract 0 d.size = d := by simp
 rw [e1, e2] at h3
 exact h3
theorem sgE_one (s : Sg) : ∀ v ∈ sgE s, v.oneCell' = true := by
 intro v hv
 simp only [List.mem_cons, List.not_mem_nil, or_false] at hv
 rcases hv with rfl | rfl | rfl | rfl | rfl | rfl | rfl | rfl | rfl | rfl | rfl | rfl | rfl | rfl <;> rfl
theorem sort19_calls (L : List Sg) (b cap : Nat) (rest : List Value) (w : World) (g : Nat) (cmp : Sg -> Sg -> Int) (hO : SWO (ltOf fun x y : { s : Sg // s ∈ L } => cmp x.1 y.1)) (eg : ∀ args w, (callFunc g args).run Tryz.prog w = .ok (.enter g args) w)
  (hc : ∀ x ∈ L, ∀ y ∈ L, ∀ W, Calls Tryz.prog g ⟨[.agg ⟨sgE x⟩, .agg ⟨sgE y⟩]⟩ W fun e w' => e = .returned (.int .i64 (cmp x y)) /\ Under W.heap.size W w') (hne : L ≠ []) (hlen : L.length <= 1000000)
  (hb : w.heap[b]? = some (.cells ⟨(L.map sgE).flatten ++ rest⟩ 32 (0, 0))) :
  Calls Tryz.prog 19 ⟨[.slice (some ⟨b, 0, none⟩) L.length cap, .func (.func g) #[] #[]]⟩ w
   (FrQ [(b, .cells ⟨(L.map sgE).flatten ++ rest⟩ 32 (0, 0))] (fun _ : { rs : List Sg // rs.Perm L /\ rs.Pairwise fun x y => ¬ cmp y x < 0 } => .tuple #[]) (fun i => [(b, .cells ⟨(i.1.map sgE).flatten ++ rest⟩ 32 (0, 0))]) w) := by
 obtain ⟨r0, hr0⟩ := List.exists_mem_of_ne_nil _ hne
 letI : Inhabited { s : Sg // s ∈ L } := ⟨⟨r0, hr0⟩⟩
 have hsz : L.attach.toArray.size = L.length := by simp
 have hmap : ∀ d : Array { s : Sg // s ∈ L }, (flatK (fun x : { s : Sg // s ∈ L } => sgE x.1) 14 d).toList = ((d.toList.map (·.1)).map sgE).flatten := fun d => by
  rw [flatK_toList (enc := fun x : { s : Sg // s ∈ L } => sgE x.1) (by decide) (fun x => sgE_len x.1) d, List.map_map]; rfl
 have hd : (flatK (fun x : { s : Sg // s ∈ L } => sgE x.1) 14 L.attach.toArray).toList.map id = (L.map sgE).flatten := by
  rw [List.map_id, hmap, show L.attach.toArray.toList = L.attach from rfl, List.attach_map_subtype_val]
 have H := AnyQ.slices_SortFunc layS19 (α := { s : Sg // s ∈ L }) 14 Tryz.isAgg32 Tryz.sizeOf32 (fun x => sgE x.1) (fun x => sgE_len x.1) (fun x => sgE_one x.1) (fun x y => cmp x.1 y.1) hO g #[] b 0 cap L.attach.toArray w eg (by
   intro m os dk hs x y
   refine (hc x.1 x.2 y.1 y.2 _).mono ?_
   rintro e w' ⟨he, hB⟩
   exact ⟨he, grow_of hB⟩) (row_holds1 (enc := id) hb hd) (Array.getElem?_eq_some_iff.1 hb).1 (by rw [hsz]; omega)
 rw [hsz] at H
 refine H.mono ?_
 rintro e w' ⟨he, d', m, os, hp, hs, rfl⟩
 have hp2 := permIn_all (by rw [hsz]; exact hp)
 have hperm : (d'.toList.map (·.1)).Perm L := by
  have h2 := hp2.map (fun x : { s : Sg // s ∈ L } => x.1)
  rwa [show L.attach.toArray.toList = L.attach from rfl, List.attach_map_subtype_val] at h2
 have hds : d'.size = L.length := by rw [hp.1, hsz]
 refine ⟨⟨d'.toList.map (·.1), hperm, ?_⟩, he, ?_⟩
 ·rw [List.pairwise_map, List.pairwise_iff_getElem]
  intro i j hi hj hij
  have h1 := hs i j (Nat.zero_le _) hij (by rw [<- hds]; simpa using hj)
  rw [getElem!_pos d' j (by simpa using hj), getElem!_pos d' i (by simpa using hi)] at h1
  simpa [ltOf] using h1
 ·refine ⟨sortW_same1 (enc := id) (d := flatK (fun x : { s : Sg // s ∈ L } => sgE x.1) 14 d') (m := m) (os := os) (by simp), fun k hkk => hkk.1, by simp, fun p hpp => ?_, closed_noJ, trivial⟩
  rw [List.mem_singleton.1 hpp]
  refine ⟨fun h => h.2 (by simp), ?_⟩
  have h3 := sortW_row1 (enc := id) (d := flatK (fun x : { s : Sg // s ∈ L } => sgE x.1) 14 d') (m := m) (os := os) hb (by rw [size_flatK, hds, sgE_rows])
  show (sortWorld id w b 0 m (flatK (fun x : { s : Sg // s ∈ L } => sgE x.1) 14 d') os).heap[b]? = _
  rw [h3, List.map_id, hmap]
theorem sort19_none (p : Option Addr) (cap g : Nat) (w : World) : Calls Tryz.prog 19 ⟨[.slice p 0 cap, .func (.func g) #[] #[]]⟩ w fun e w' => e = .returned (.tuple #[]) /\ Under w.heap.size w w' :=
 (AnyF.slices_SortFunc_none layS19 p cap (.func (.func g) #[] #[]) w).mono fun _ _ ⟨h1, h2⟩ => ⟨h1, h2 ▸ Kin.Under.refl _ _⟩
end R41
end Go.Proofs

set_option maxRecDepth 100000
set_option maxHeartbeats 400000000
namespace Go.Proofs
open Go.RowKit Go.Kin Go.Kin.Cl
namespace R41
theorem ext_heap {W : World} {b : Nat} {cs : List Value} {T : TypeId} (h : W.heap[b]? = some (.cells ⟨cs⟩ T (0, 0))) : Ext W (base W) b 0 cs :=
 ⟨lt_of_heap h, fun i v hi => by
  unfold World.cell?
  rw [Nat.zero_add, h]
  show cs.toArray[i]? = _
  rw [List.getElem?_toArray]; exact hi⟩
theorem by45_calls (s t : Sg) (a b : Nat) (w : World) (ha : w.heap[a]? = some (.cells ⟨sgE s⟩ 32 (0, 0))) (hb : w.heap[b]? = some (.cells ⟨sgE t⟩ 32 (0, 0))) (h1 : 0 <= s.role /\ s.role <= 63) (h2 : 0 <= t.role /\ t.role <= 63) :
  Calls Tryz.prog 45 ⟨[.pointer (some ⟨a, 0, none⟩), .pointer (some ⟨b, 0, none⟩)]⟩ w fun e w' => e = .returned (.int .i64 (s.role - t.role)) /\ Under w.heap.size w w' := by
 have x1 := ext_heap ha
 have x2 := ext_heap hb
 refine fEn Tryz.func45 rfl Tryz.ntmps45 rfl rfl (sWn w) ?_
 repeat (first|refine lVa rfl rfl (by first|exact v_sub rfl rfl (by omega) (by omega)|exact pEv rfl|exact vLe rfl (by assumption) rfl (by rfl)|fail) ?_|refine lNi ?_|refine cRg ?_|refine cSq ?_|refine xTh ?_|refine c_ret ?_|fail)
 exact x_ret rfl rfl (by repeat constructor) rfl (fun W hW => ⟨rfl, hW.below⟩)
theorem by46_calls (s t : Sg) (a b : Nat) (w : World) (ha : w.heap[a]? = some (.cells ⟨sgE s⟩ 32 (0, 0))) (hb : w.heap[b]? = some (.cells ⟨sgE t⟩ 32 (0, 0))) (h1 : 0 <= s.bar /\ s.bar <= 4095) (h2 : 0 <= t.bar /\ t.bar <= 4095) :
  Calls Tryz.prog 46 ⟨[.pointer (some ⟨a, 0, none⟩), .pointer (some ⟨b, 0, none⟩)]⟩ w fun e w' => e = .returned (.int .i64 (s.bar - t.bar)) /\ Under w.heap.size w w' := by
 have x1 := ext_heap ha
 have x2 := ext_heap hb
 refine fEn Tryz.func46 rfl Tryz.ntmps46 rfl rfl (sWn w) ?_
 repeat (first|refine lVa rfl rfl (by first|exact v_sub rfl rfl (by omega) (by omega)|exact pEv rfl|exact vLe rfl (by assumption) rfl (by rfl)|fail) ?_|refine lNi ?_|refine cRg ?_|refine cSq ?_|refine xTh ?_|refine c_ret ?_|fail)
 exact x_ret rfl rfl (by repeat constructor) rfl (fun W hW => ⟨rfl, hW.below⟩)
def cmpF (s t : Sg) : Int := cmpI (s.fn * t.fd) (t.fn * s.fd)
theorem okQ_of {s t : Sg} (hs : formB s = true) (ht : formB t = true) : okQ s.fn s.fd t.fn t.fd = true := by
 have h1 : spanB s.fn s.fd s.tn s.td = true := (of_decide_eq_true hs).2.2.2.2.2.2.2.2.2.2
 have h2 : spanB t.fn t.fd t.tn t.td = true := (of_decide_eq_true ht).2.2.2.2.2.2.2.2.2.2
 unfold spanB at h1 h2
 rw [Bool.and_eq_true] at h1 h2
 have h3 := h1.1
 have h4 := h2.1
 unfold okQ at h3 h4 ⊢
 rw [Bool.and_eq_true] at h3 h4 ⊢
 exact ⟨h3.1, h4.1⟩
theorem by47_calls (s t : Sg) (a b : Nat) (w : World) (ha : w.heap[a]? = some (.cells ⟨sgE s⟩ 32 (0, 0))) (hb : w.heap[b]? = some (.cells ⟨sgE t⟩ 32 (0, 0))) (hs : s.wf) (ht : t.wf) (fs : formB s = true) (ft : formB t = true) :
  Calls Tryz.prog 47 ⟨[.pointer (some ⟨a, 0, none⟩), .pointer (some ⟨b, 0, none⟩)]⟩ w fun e w' => e = .returned (.int .i64 (cmpF s t)) /\ Under w.heap.size w w' := by
 have x1 := ext_heap ha
 have x2 := ext_heap hb
 have hc := fun W => Cmp_calls s.fn s.fd t.fn t.fd W hs.fn hs.fd ht.fn ht.fd
 have hv : cmpA s.fn s.fd t.fn t.fd = (cmpF s t, 0) := if_pos (okQ_of fs ft)
 rw [hv] at hc
 refine fEn Tryz.func47 rfl Tryz.ntmps47 rfl rfl (sWn w) ?_
 repeat (first|refine lVa rfl rfl (by first|exact pEv rfl|exact vLe rfl (by assumption) rfl (by rfl)|fail) ?_|refine lNi ?_|refine cRg ?_|refine cSq ?_|refine xTh ?_|fail)
 refine r_call rfl rfl rfl (fun W hW => hc W) ?_
 repeat (first|refine lVa rfl rfl (by first|exact pEv rfl|fail) ?_|refine lNi ?_|refine cRg ?_|refine cSq ?_|refine xTh ?_|refine c_ret ?_|fail)
 exact x_ret rfl rfl (by repeat constructor) rfl (fun W hW => ⟨rfl, hW.below⟩)
def cmpS (s t : Sg) : Int := if s.role - t.role ≠ 0 then s.role - t.role else if s.bar - t.bar ≠ 0 then s.bar - t.bar else if cmpF s t ≠ 0 then cmpF s t else s.id - t.id
theorem compare20_calls (s t : Sg) (w : World) (hs : s.wf) (ht : t.wf) (fs : formB s = true) (ft : formB t = true) :
  Calls Tryz.prog 20 ⟨[.agg ⟨sgE s⟩, .agg ⟨sgE t⟩]⟩ w fun e w' => e = .returned (.int .i64 (cmpS s t)) /\ Under w.heap.size w w' := by
 obtain ⟨i1, r1, b1, _⟩ : formP s := of_decide_eq_true fs
 obtain ⟨i2, r2, b2, _⟩ : formP t := of_decide_eq_true ft
 refine fEn Tryz.func20 rfl Tryz.ntmps20 rfl rfl (sWn w) ?_
 repeat ((fail_if_success refine c_probe (id := 2) ?_); (fail_if_success refine c_probe1 (id := 2) ?_); first|refine lVa rfl rfl (by first|exact pEv rfl|fail) ?_|refine lNi ?_|refine cRg ?_|refine cSq ?_|refine xTh ?_|refine r_box rfl rfl rfl rfl (fun _ => ?_)|refine r_buildSlice rfl rfl rfl rfl rfl rfl (by rfl) (fun _ => ?_)|refine cBl ?_|fail)
 rename_i ba bb bl
 have hv : cmpS s t = if s.role - t.role ≠ 0 then s.role - t.role else if s.bar - t.bar ≠ 0 then s.bar - t.bar else if cmpF s t ≠ 0 then cmpF s t else s.id - t.id := rfl
 generalize cmpS s t = q at hv ⊢
 have c1 := by45_calls s t ba bb
 have c2 := by46_calls s t ba bb
 have c3 := by47_calls s t ba bb
 generalize cmpF s t = z at hv c3
 refine c_loop (ι := Nat) (fun k => k <= 3 /\ (0 < k -> s.role - t.role = 0) /\ (1 < k -> s.bar - t.bar = 0) /\ (2 < k -> z = 0)) (fun k => [(2, .pointer (some ⟨ba, 0, none⟩)), (3, .pointer (some ⟨bb, 0, none⟩)), (4, .int .i64 0), (11, .slice (some ⟨bl, 0, none⟩) 3 3), (12, .int .i64 (3 : Nat)), (13, .int .i64 k)])
  (fun _ => [(bl, .cells ⟨[.func (.func 45) ⟨[]⟩ ⟨[.pointer (some ⟨ba, 0, none⟩), .pointer (some ⟨bb, 0, none⟩)]⟩, .func (.func 46) ⟨[]⟩ ⟨[.pointer (some ⟨ba, 0, none⟩), .pointer (some ⟨bb, 0, none⟩)]⟩, .func (.func 47) ⟨[]⟩ ⟨[.pointer (some ⟨ba, 0, none⟩), .pointer (some ⟨bb, 0, none⟩)]⟩]⟩ 104 (0, 0)), (bb, .cells ⟨sgE t⟩ 32 (0, 0)), (ba, .cells ⟨sgE s⟩ 32 (0, 0))]) (fun k => 3 - k) 0
  ⟨Nat.zero_le _, fun h => absurd h (by decide), fun h => absurd h (by decide), fun h => absurd h (by decide)⟩ (by repeat (first|exact .nil|refine .cons rfl (by first|rfl|(congr 1; done)|exact congrArg _ (by omega)|(simp; done)) ?_)) (by repeat (first|exact .nil|refine .keep (by first|rfl|assumption) ?_|refine .drop ?_|exact MSub.refl _)) ?_
 rintro k ⟨hk, h1, h2, h3⟩
 simp only at hk h1 h2 h3 ⊢
 by_cases k0 : k = 0
 ·subst k0
  clear h1 h2 h3 c2 c3
  repeat ((fail_if_success refine c_probe (id := 4) ?_); (fail_if_success refine c_probe1 (id := 4) ?_); first|refine lVa rfl rfl (by first|exact pEv rfl|exact vLd rfl (by repeat constructor) rfl (by rfl)|exact v_index rfl rfl rfl rfl (by omega) (by omega) (by with_reducible first|exact idx1 _|fail)|fail) ?_|refine lNi ?_|refine cRg ?_|refine cSq ?_|refine xTh ?_|refine c_true rfl ?_|refine cBl ?_|refine cSk ?_|fail)
  refine cSq ?_
  repeat (first|refine lVa rfl rfl (by first|exact pEv rfl|fail) ?_|refine cRg ?_|fail)
  refine r_callv rfl rfl rfl rfl rfl (fun W hW => c1 W (hW.own _ (List.mem_cons_of_mem _ (List.mem_cons_of_mem _ List.mem_cons_self))).2 (hW.own _ (List.mem_cons_of_mem _ List.mem_cons_self)).2 r1 r2) ?_
  by_cases hd : s.role - t.role = 0
  ·rw [hd]
   repeat ((fail_if_success refine c_probe (id := 7) ?_); (fail_if_success refine c_probe1 (id := 7) ?_); first|refine lVa rfl rfl (by first|exact v_add rfl rfl (by omega) (by omega)|exact pEv rfl|fail) ?_|refine lNi ?_|refine cRg ?_|refine cSq ?_|refine xTh ?_|refine c_false rfl ?_|refine cSk ?_|refine x_block ?_|fail)
   exact x_back 1 ⟨by decide, fun _ => rfl, fun h => absurd h (by decide), fun h => absurd h (by decide)⟩ (by decide) (by repeat (first|exact .nil|refine .cons rfl (by first|rfl|(congr 1; done)|exact congrArg _ (by omega)|(simp; done)) ?_)) (by repeat (first|exact .nil|refine .keep (by first|rfl|assumption) ?_|refine .drop ?_|exact MSub.refl _))
  ·have hq : q = s.role - t.role := by rw [hv, if_pos hd]
   subst hq
   generalize s.role - t.role = y at hd ⊢
   repeat ((fail_if_success refine c_probe (id := 8) ?_); (fail_if_success refine c_probe1 (id := 8) ?_); first|refine lVa rfl rfl (by first|exact pEv rfl|fail) ?_|refine lNi ?_|refine cRg ?_|refine cSq ?_|refine xTh ?_|refine c_dec_t rfl (by first|omega|fail) ?_|refine c_ret ?_|refine xTr ?_|refine xBr ?_|fail)
   exact x_ret rfl rfl (by repeat constructor) rfl (fun W hW => ⟨rfl, hW.below⟩)
 by_cases k1 : k = 1
 ·subst k1
  have e1 := h1 (by decide)
  clear h1 h2 h3 c1 c3
  repeat ((fail_if_success refine c_probe (id := 4) ?_); (fail_if_success refine c_probe1 (id := 4) ?_); first|refine lVa rfl rfl (by first|exact pEv rfl|exact vLd rfl (by repeat constructor) rfl (by rfl)|exact v_index rfl rfl rfl rfl (by omega) (by omega) (by with_reducible first|exact idx1 _|fail)|fail) ?_|refine lNi ?_|refine cRg ?_|refine cSq ?_|refine xTh ?_|refine c_true rfl ?_|refine cBl ?_|refine cSk ?_|fail)
  refine cSq ?_
  repeat (first|refine lVa rfl rfl (by first|exact pEv rfl|fail) ?_|refine cRg ?_|fail)
  refine r_callv rfl rfl rfl rfl rfl (fun W hW => c2 W (hW.own _ (List.mem_cons_of_mem _ (List.mem_cons_of_mem _ List.mem_cons_self))).2 (hW.own _ (List.mem_cons_of_mem _ List.mem_cons_self)).2 b1 b2) ?_
  by_cases hd : s.bar - t.bar = 0
  ·rw [hd]
   repeat ((fail_if_success refine c_probe (id := 7) ?_); (fail_if_success refine c_probe1 (id := 7) ?_); first|refine lVa rfl rfl (by first|exact v_add rfl rfl (by omega) (by omega)|exact pEv rfl|fail) ?_|refine lNi ?_|refine cRg ?_|refine cSq ?_|refine xTh ?_|refine c_false rfl ?_|refine cSk ?_|refine x_block ?_|fail)
   exact x_back 2 ⟨by decide, fun _ => e1, fun _ => rfl, fun h => absurd h (by decide)⟩ (by decide) (by repeat (first|exact .nil|refine .cons rfl (by first|rfl|(congr 1; done)|exact congrArg _ (by omega)|(simp; done)) ?_)) (by repeat (first|exact .nil|refine .keep (by first|rfl|assumption) ?_|refine .drop ?_|exact MSub.refl _))
  ·have hq : q = s.bar - t.bar := by rw [hv, if_neg (by simp [e1]), if_pos hd]
   subst hq
   generalize s.bar - t.bar = y at hd ⊢
   repeat ((fail_if_success refine c_probe (id := 8) ?_); (fail_if_success refine c_probe1 (id := 8) ?_); first|refine lVa rfl rfl (by first|exact pEv rfl|fail) ?_|refine lNi ?_|refine cRg ?_|refine cSq ?_|refine xTh ?_|refine c_dec_t rfl (by first|omega|fail) ?_|refine c_ret ?_|refine xTr ?_|refine xBr ?_|fail)
   exact x_ret rfl rfl (by repeat constructor) rfl (fun W hW => ⟨rfl, hW.below⟩)
 by_cases k2 : k = 2
 ·subst k2
  have e1 := h1 (by decide)
  have e2 := h2 (by decide)
  clear h1 h2 h3 c1 c2
  repeat ((fail_if_success refine c_probe (id := 4) ?_); (fail_if_success refine c_probe1 (id := 4) ?_); first|refine lVa rfl rfl (by first|exact pEv rfl|exact vLd rfl (by repeat constructor) rfl (by rfl)|exact v_index rfl rfl rfl rfl (by omega) (by omega) (by with_reducible first|exact idx1 _|fail)|fail) ?_|refine lNi ?_|refine cRg ?_|refine cSq ?_|refine xTh ?_|refine c_true rfl ?_|refine cBl ?_|refine cSk ?_|fail)
  refine cSq ?_
  repeat (first|refine lVa rfl rfl (by first|exact pEv rfl|fail) ?_|refine cRg ?_|fail)
  refine r_callv rfl rfl rfl rfl rfl (fun W hW => c3 W (hW.own _ (List.mem_cons_of_mem _ (List.mem_cons_of_mem _ List.mem_cons_self))).2 (hW.own _ (List.mem_cons_of_mem _ List.mem_cons_self)).2 hs ht fs ft) ?_
  by_cases hd : z = 0
  ·rw [hd]
   repeat ((fail_if_success refine c_probe (id := 7) ?_); (fail_if_success refine c_probe1 (id := 7) ?_); first|refine lVa rfl rfl (by first|exact v_add rfl rfl (by omega) (by omega)|exact pEv rfl|fail) ?_|refine lNi ?_|refine cRg ?_|refine cSq ?_|refine xTh ?_|refine c_false rfl ?_|refine cSk ?_|refine x_block ?_|fail)
   exact x_back 3 ⟨by decide, fun _ => e1, fun _ => e2, fun _ => rfl⟩ (by decide) (by repeat (first|exact .nil|refine .cons rfl (by first|rfl|(congr 1; done)|exact congrArg _ (by omega)|(simp; done)) ?_)) (by repeat (first|exact .nil|refine .keep (by first|rfl|assumption) ?_|refine .drop ?_|exact MSub.refl _))
  ·have hq : q = z := by rw [hv, if_neg (by simp [e1]), if_neg (by simp [e2]), if_pos hd]
   subst hq
   repeat ((fail_if_success refine c_probe (id := 8) ?_); (fail_if_success refine c_probe1 (id := 8) ?_); first|refine lVa rfl rfl (by first|exact pEv rfl|fail) ?_|refine lNi ?_|refine cRg ?_|refine cSq ?_|refine xTh ?_|refine c_dec_t rfl (by first|omega|fail) ?_|refine c_ret ?_|refine xTr ?_|refine xBr ?_|fail)
   exact x_ret rfl rfl (by repeat constructor) rfl (fun W hW => ⟨rfl, hW.below⟩)
 have k3 : k = 3 := by omega
 subst k3
 have hq : q = s.id - t.id := by rw [hv, if_neg (by simp [h1 (by decide)]), if_neg (by simp [h2 (by decide)]), if_neg (by simp [h3 (by decide)])]
 clear h1 h2 h3 c1 c2 c3
 repeat ((fail_if_success refine c_probe (id := 8) ?_); (fail_if_success refine c_probe1 (id := 8) ?_); first|refine lVa rfl rfl (by first|exact pEv rfl|fail) ?_|refine lNi ?_|refine cRg ?_|refine cSq ?_|refine xTh ?_|refine c_false rfl ?_|refine c_exit ?_|refine xTe ?_|refine xBs ?_|fail)
 repeat (first|refine lVa rfl rfl (by first|exact v_sub rfl rfl (by omega) (by omega)|exact pEv rfl|exact vLd rfl (by repeat constructor) rfl (by rfl)|fail) ?_|refine lNi ?_|refine cRg ?_|refine cSq ?_|refine xTh ?_|refine c_ret ?_|fail)
 exact x_ret rfl rfl (by repeat constructor) rfl (fun W hW => ⟨by rw [hq], hW.below⟩)
end R41
end Go.Proofs
