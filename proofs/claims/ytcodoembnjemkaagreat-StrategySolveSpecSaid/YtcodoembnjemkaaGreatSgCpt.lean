/- Decisions that are the same are dropped. -/
import Derived.Test.YtcodoembnjemkaaGreatEng40
set_option maxRecDepth 100000
set_option maxHeartbeats 400000000
set_option linter.unusedSectionVars false
set_option linter.unusedVariables false
set_option linter.unusedSimpArgs false
namespace Go.Proofs
open Go.RowKit Go.Kin Go.Kin.St Go.Kin.Ct Go.Kin.Sg Go.Shelf Go.Sort
namespace R24
def drK (r : DR) : Int := r.k
def knC (w : World) (r : DR) : Prop := ∀ k x, r.l[k]? = some x -> w.cell? ⟨r.bk, 0 + k, none⟩ = some (.int .i64 x)
theorem same_calls (x y : DR) (n : Nat) (hx : x.l.length = n) (hy : y.l.length = n) (hn : n <= 1000) (w : World) (hcx : knC w x) (hcy : knC w y) :
  Calls Tryz.prog 71 ⟨[] ++ [.agg ⟨drE x⟩, .agg ⟨drE y⟩] ++ []⟩ w fun e w' => e = .returned (.bool (eqR drK DR.l x y)) /\ Below w.heap.size w w' := by
 refine fEn Tryz.func71 rfl Tryz.ntmps71 rfl rfl (sWn w) ?_
 repeat (first|refine lVa rfl rfl (by first|exact pEv rfl|exact vLd rfl (by repeat constructor) rfl (by rfl)|fail) ?_|refine lNi ?_|refine cRg ?_|refine cSq ?_|refine xTh ?_|refine r_box rfl rfl rfl rfl (fun _ => ?_)|fail)
 refine r_call (v := .int .i64 (or2 (cmpI x.k y.k) (cmpL x.l y.l))) rfl rfl rfl (fun W hW => (compare_any x.k y.k x.bk 0 x.ck y.bk 0 y.ck x.l y.l _ _ rfl rfl W (by rw [hx, hy]) (by rw [hx]; exact hn) (fun k v h => (hW.below.cell (lt_of_cell (hcx k v h))).trans (hcx k v h)) (fun k v h => (hW.below.cell (lt_of_cell (hcy k v h))).trans (hcy k v h))).mono ?_) ?_
 ·rintro e w' ⟨rfl, q, os, rfl⟩
  exact ⟨rfl, below_grow _ _ _⟩
 repeat (first|refine lVa rfl rfl (by first|exact pEv rfl|fail) ?_|refine lNi ?_|refine xTh ?_|refine c_ret ?_|fail)
 exact x_ret rfl rfl (by repeat constructor) rfl (fun W hW => ⟨rfl, hW.below⟩)
theorem drE_rows : ∀ {l : List DR}, ∀ r ∈ l.map drE, r.length = 3 := fun r hr => by obtain ⟨x, _, rfl⟩ := List.mem_map.1 hr; rfl
theorem dr_at {l : List DR} {rest : List Value} {i : Nat} {r : DR} (h : l[i]? = some r) : RowAt ((l.map drE).flatten ++ rest) (i * 3) (drE r) := rowAt_flatten drE_rows (by rw [List.getElem?_map, h]; rfl)
theorem dr_put {l : List DR} {rest : List Value} {i : Nat} {r : DR} (h : i < l.length) : putK ((l.map drE).flatten ++ rest) (i * 3) (drE r) some = some (((l.set i r).map drE).flatten ++ rest) := by
 rw [putK_splice (by rw [List.length_append, dr_rows, drE_len]; omega), splice_flatten drE_rows (by simpa using h) rfl, List.map_set]
structure CO where
 rs : List DR
 cap : Nat
 rest : List Value
theorem compact_calls (rows : List DR) (b cap n : Nat) (rest : List Value) (w : World) (hl : ∀ r ∈ rows, r.l.length = n) (hn : n <= 1000) (hlen : rows.length <= 10000000) (hgr : Grow 3 rows.length ((rows.map drE).flatten) cap rest)
  (hk : ∀ r ∈ rows, r.bk ≠ b /\ r.bk < w.heap.size /\ knC w r) (hb : w.heap[b]? = some (.cells ⟨(rows.map drE).flatten ++ rest⟩ 39 (0, 0))) :
  Calls Tryz.prog 70 ⟨[.slice (some ⟨b, 0, none⟩) rows.length cap, .func (.func 71) ⟨[]⟩ ⟨[]⟩]⟩ w
   (FrQ [(b, .cells ⟨(rows.map drE).flatten ++ rest⟩ 39 (0, 0))] (fun _ : { rest' : List Value // Grow 3 (kp drK DR.l rows rows.length).length (((kp drK DR.l rows rows.length).map drE).flatten) cap rest' } => .slice (some ⟨b, 0, none⟩) (kp drK DR.l rows rows.length).length cap)
    (fun i => [(b, .cells ⟨((kp drK DR.l rows rows.length).map drE).flatten ++ i.1⟩ 39 (0, 0))]) w) := by
 have hsat : SatW w (allBut w ([(b, Obj.cells ⟨(rows.map drE).flatten ++ rest⟩ 39 (0, 0))].map (·.1))) noJ [(b, Obj.cells ⟨(rows.map drE).flatten ++ rest⟩ 39 (0, 0))] w := frQ_start (by simp) (by simpa using hb)
 have hkn : ∀ {r : DR}, r ∈ rows -> ∀ {mem : List (Nat × Obj)} {W : World}, SatW w (allBut w ([(b, Obj.cells ⟨(rows.map drE).flatten ++ rest⟩ 39 (0, 0))].map (·.1))) noJ mem W -> knC W r := fun {r} hr {mem} {W} hW k x h => by
  obtain ⟨h1, h2, h3⟩ := hk r hr
  exact hW.same.cell (h3 k x h) ⟨h2, by simpa using h1⟩
 have hcl := hgr.le
 have hcm := hgr.max
 refine fEn Tryz.func70 rfl Tryz.ntmps70 rfl rfl hsat ?_
 by_cases h2 : rows.length < 2
 ·have hk2 : kp drK DR.l rows rows.length = rows := by
   rw [kp_all (Nat.le_refl _) fun j hj => by
    have e : j = 0 := by omega
    subst e; rfl, List.take_length]
  rw [hk2]
  repeat (first|refine lVa rfl rfl (by first|exact pEv rfl|fail) ?_|refine lNi ?_|refine cRg ?_|refine cSq ?_|refine xTh ?_|refine c_dec_t rfl (by first|omega|fail) ?_|refine c_ret ?_|refine xTr ?_|fail)
  exact x_ret rfl rfl (by repeat constructor) rfl (fun W hW => ⟨⟨rest, hgr⟩, rfl, hW⟩)
 ·refine cSq ?_
  repeat ((fail_if_success refine c_probe (id := 4) ?_); (fail_if_success refine c_probe1 (id := 4) ?_); first|refine lVa rfl rfl (by first|exact pEv rfl|fail) ?_|refine lNi ?_|refine cRg ?_|refine cSq ?_|refine xTh ?_|refine c_dec_f rfl (by first|omega|fail) ?_|refine cBl ?_|refine cSk ?_|fail)
  refine c_loop (ι := Nat) (fun k => 1 <= k /\ k <= rows.length /\ ∀ j, j < k -> dup drK DR.l rows j = false) (fun k => [(0, .slice (some ⟨b, 0, none⟩) rows.length cap), (1, .func (.func 71) ⟨[]⟩ ⟨[]⟩), (5, .int .i64 (k : Nat))]) (fun _ => [(b, .cells ⟨(rows.map drE).flatten ++ rest⟩ 39 (0, 0))]) (fun k => rows.length - k) 1 ⟨Nat.le_refl _, by omega, fun j hj => by
   have e : j = 0 := by omega
   subst e; rfl⟩ (by repeat (first|exact .nil|refine .cons rfl (by first|rfl|(congr 1; done)|exact congrArg _ (by omega)|(simp; done)) ?_)) (by repeat (first|exact .nil|refine .keep (by first|rfl|assumption) ?_|refine .drop ?_|exact MSub.refl _)) ?_
  rintro k ⟨hk1, hkl, hF⟩
  by_cases hlt : k < rows.length
  ·obtain ⟨j, rfl⟩ : ∃ j, k = j + 1 := ⟨k - 1, by omega⟩
   obtain ⟨y, hy⟩ : ∃ y, rows[j + 1]? = some y := ⟨_, List.getElem?_eq_getElem hlt⟩
   obtain ⟨x, hx⟩ : ∃ x, rows[j]? = some x := ⟨_, List.getElem?_eq_getElem (by omega)⟩
   have hym := List.mem_of_getElem? hy
   have hxm := List.mem_of_getElem? hx
   have hd := dup_at (k := drK) (l := DR.l) hy hx
   have hr1 : RowAt ((rows.map drE).flatten ++ rest) ((j + 1) * 3) (drE y) := dr_at hy
   have hr2 : RowAt ((rows.map drE).flatten ++ rest) ((((j + 1 : Nat) : Int) - 1).toNat * 3) (drE x) := by
    rw [show (((j + 1 : Nat) : Int) - 1).toNat = j by omega]; exact dr_at hx
   repeat ((fail_if_success refine c_probe (id := 6) ?_); (fail_if_success refine c_probe1 (id := 6) ?_); first|refine lVa rfl rfl (by first|exact pEv rfl|fail) ?_|refine lNi ?_|refine cRg ?_|refine cSq ?_|refine xTh ?_|refine c_dec_t rfl (by first|omega|fail) ?_|refine cBl ?_|refine cSk ?_|fail)
   repeat refine cSq ?_
   refine c_new 0 0 [(10, .cal (.bool (eqR drK DR.l y x)))] [(10, [])] [] rfl (by decide +kernel) rfl ?_
   repeat (first|refine e_val rfl rfl rfl rfl (by first|exact v_sub rfl rfl (by omega) (by omega)|exact pEv rfl|exact v_index rfl rfl rfl rfl (by omega) (by omega) (by with_reducible first|exact idx3 _ _|exact idx7 _ _|fail)|exact v_load_row rfl (by repeat constructor) rfl rfl (by first|assumption|fail) rfl|fail) ?_|fail)
   refine e_callv rfl rfl rfl rfl rfl rfl rfl (fun W hW => same_calls y x n (hl y hym) (hl x hxm) hn W (hkn hym hW) (hkn hxm hW)) ?_
   cases he : eqR drK DR.l y x with
   | false =>
    repeat (first|refine lVa rfl rfl (by first|exact v_add rfl rfl (by omega) (by omega)|exact pEv rfl|fail) ?_|refine lNi ?_|refine cRg ?_|refine xTh ?_|refine c_false rfl ?_|refine cSk ?_|refine x_block ?_|refine e_nil rfl ?_|fail)
    refine x_back (j + 1 + 1) ⟨by omega, by omega, fun i hi => ?_⟩ (by omega) (by repeat (first|exact .nil|refine .cons rfl (by first|rfl|(congr 1; done)|exact congrArg _ (by omega)|(simp; done)) ?_)) (by repeat (first|exact .nil|refine .keep (by first|rfl|assumption) ?_|refine .drop ?_|exact MSub.refl _))
    by_cases hij : i < j + 1
    ·exact hF i hij
    ·have e : i = j + 1 := by omega
     subst e; rw [hd, he]
   | true =>
    rw [he] at hd
    have hkp : kp drK DR.l rows (j + 1) = rows.take (j + 1) := kp_all (by omega) hF
    have hkp2 : kp drK DR.l rows (j + 1 + 1) = rows.take (j + 1) := by rw [kp_dup hd, hkp]
    repeat ((fail_if_success refine c_probe (id := 9) ?_); (fail_if_success refine c_probe1 (id := 9) ?_); first|refine lVa rfl rfl (v_sliceL rfl rfl rfl rfl rfl (by omega) (by omega)) ?_|refine lVa rfl rfl (by first|exact pEv rfl|fail) ?_|refine lNi ?_|refine cRg ?_|refine cSq ?_|refine xTh ?_|refine c_true rfl ?_|refine cBl ?_|refine e_nil rfl ?_|fail)
    refine c_loop (ι := Nat × Nat) (fun m => 1 <= m.1 /\ j + 1 + m.1 <= rows.length /\ (kp drK DR.l rows (j + 1 + m.1)).length = m.2 /\ m.2 + 1 <= j + 1 + m.1)
     (fun m => [(0, .slice (some ⟨b, 0, none⟩) rows.length cap), (1, .func (.func 71) ⟨[]⟩ ⟨[]⟩), (5, .int .i64 (m.2 : Nat)), (6, .slice (some ⟨b, 0 + (j + 1) * 3, none⟩) (rows.length - (j + 1)) (cap - (j + 1))), (7, .int .i64 (m.1 : Nat))])
     (fun m => [(b, .cells ⟨((kp drK DR.l rows (j + 1 + m.1) ++ rows.drop m.2).map drE).flatten ++ rest⟩ 39 (0, 0))]) (fun m => rows.length - m.1) (1, j + 1) ⟨Nat.le_refl _, by omega, by rw [hkp2, List.length_take]; omega, by omega⟩ (by repeat (first|exact .nil|refine .cons rfl (by first|rfl|(congr 1; done)|exact congrArg _ (by omega)|(simp; done)) ?_)) (by rw [hkp2, List.take_append_drop]; exact MSub.refl _) ?_
    rintro ⟨m, k⟩ ⟨hm1, hm2, hm3, hm4⟩
    simp only at hm1 hm2 hm3 hm4 ⊢
    have hls : (kp drK DR.l rows (j + 1 + m) ++ rows.drop k).length = rows.length := by rw [List.length_append, hm3, List.length_drop]; omega
    by_cases hmt : m < rows.length - (j + 1)
    ·have hat : ∀ i r, k <= i -> rows[i]? = some r -> (kp drK DR.l rows (j + 1 + m) ++ rows.drop k)[i]? = some r := fun i r hi hr => by
      rw [List.getElem?_append_right (by omega), hm3, List.getElem?_drop, show k + (i - k) = i by omega, hr]
     obtain ⟨y2, hy2⟩ : ∃ y, rows[j + 1 + m]? = some y := ⟨_, List.getElem?_eq_getElem (by omega)⟩
     obtain ⟨x2, hx2⟩ : ∃ x, rows[j + m]? = some x := ⟨_, List.getElem?_eq_getElem (by omega)⟩
     have hym2 := List.mem_of_getElem? hy2
     have hxm2 := List.mem_of_getElem? hx2
     have hd2 := dup_at (k := drK) (l := DR.l) (m := j + m) (by rw [show j + m + 1 = j + 1 + m by omega]; exact hy2) hx2
     rw [show j + m + 1 = j + 1 + m by omega] at hd2
     have hr1 : RowAt (((kp drK DR.l rows (j + 1 + m) ++ rows.drop k).map drE).flatten ++ rest) (0 + (j + 1) * 3 + m * 3) (drE y2) := by
      rw [show 0 + (j + 1) * 3 + m * 3 = (j + 1 + m) * 3 by omega]; exact dr_at (hat _ _ (by omega) hy2)
     have hr2 : RowAt (((kp drK DR.l rows (j + 1 + m) ++ rows.drop k).map drE).flatten ++ rest) (0 + (j + 1) * 3 + ((m : Int) - 1).toNat * 3) (drE x2) := by
      rw [show 0 + (j + 1) * 3 + ((m : Int) - 1).toNat * 3 = (j + m) * 3 by omega]; exact dr_at (hat _ _ (by omega) hx2)
     repeat ((fail_if_success refine c_probe (id := 11) ?_); (fail_if_success refine c_probe1 (id := 11) ?_); first|refine lVa rfl rfl (by first|exact pEv rfl|fail) ?_|refine lNi ?_|refine cRg ?_|refine cSq ?_|refine xTh ?_|refine c_dec_t rfl (by first|omega|fail) ?_|refine cBl ?_|refine cSk ?_|fail)
     repeat refine cSq ?_
     refine c_new 0 0 [(10, .cal (.bool (eqR drK DR.l y2 x2)))] [(10, [])] [] rfl (by decide +kernel) rfl ?_
     repeat (first|refine e_val rfl rfl rfl rfl (by first|exact v_sub rfl rfl (by omega) (by omega)|exact pEv rfl|exact v_index rfl rfl rfl rfl (by omega) (by omega) (by with_reducible first|exact idx4 _ _ _|exact idx8 _ _ _|fail)|exact v_load_row rfl (by repeat constructor) rfl rfl (by first|assumption|fail) rfl|fail) ?_|fail)
     refine e_callv rfl rfl rfl rfl rfl rfl rfl (fun W hW => same_calls y2 x2 n (hl y2 hym2) (hl x2 hxm2) hn W (hkn hym2 hW) (hkn hxm2 hW)) ?_
     cases he2 : eqR drK DR.l y2 x2 with
     | true =>
      rw [he2] at hd2
      have hk3 := kp_dup hd2
      repeat (first|refine lVa rfl rfl (by first|exact v_add rfl rfl (by omega) (by omega)|exact pEv rfl|fail) ?_|refine lNi ?_|refine cRg ?_|refine xTh ?_|refine c_false rfl ?_|refine cSk ?_|refine x_block ?_|refine e_val rfl rfl rfl rfl (by first|exact pEv rfl|fail) ?_|refine e_nil rfl ?_|fail)
      refine x_back (m + 1, k) ⟨by simp only; omega, by simp only; omega, ?_, by simp only; omega⟩ (by simp only; omega) (by repeat (first|exact .nil|refine .cons rfl (by first|rfl|(congr 1; done)|exact congrArg _ (by omega)|(simp; done)) ?_)) (by simp only; rw [<- Nat.add_assoc, hk3]; exact MSub.refl _)
      simp only
      rw [<- Nat.add_assoc, hk3]; exact hm3
     | false =>
      rw [he2] at hd2
      have hk3 := kp_new hd2 hy2
      repeat (first|refine lVa rfl rfl (by first|exact pEv rfl|exact v_index rfl rfl rfl rfl (by omega) (by omega) (by with_reducible first|exact idx3 _ _|exact idx4 _ _ _|fail)|exact v_load_row rfl (by repeat constructor) rfl rfl (by first|assumption|fail) rfl|fail) ?_|refine cRg ?_|refine cSq ?_|refine xTh ?_|refine c_true rfl ?_|refine e_val rfl rfl rfl rfl (by first|exact pEv rfl|fail) ?_|refine e_nil rfl ?_|fail)
      refine rSt (cs' := ((kp drK DR.l rows (j + 1 + m + 1) ++ rows.drop (k + 1)).map drE).flatten ++ rest) rfl rfl rfl rfl rfl rfl rfl (by repeat constructor) ?_ ?_
      ·show putK _ _ (drE y2) some = _
       rw [dr_put (r := y2) (by rw [hls]; omega), hk3]
       congr 4
       rw [List.set_append_right _ _ (by omega), hm3, Nat.sub_self, List.drop_eq_getElem_cons (show k < rows.length by omega), List.set_cons_zero, List.append_assoc]; rfl
      repeat (first|refine lVa rfl rfl (by first|exact v_add rfl rfl (by omega) (by omega)|exact pEv rfl|fail) ?_|refine lNi ?_|refine cRg ?_|refine xTh ?_|refine x_block ?_|fail)
      refine x_back (m + 1, k + 1) ⟨by simp only; omega, by simp only; omega, ?_, by simp only; omega⟩ (by simp only; omega) (by repeat (first|exact .nil|refine .cons rfl (by first|rfl|(congr 1; done)|exact congrArg _ (by omega)|(simp; done)) ?_)) (by simp only; rw [<- Nat.add_assoc]; exact MSub.refl _)
      simp only
      rw [<- Nat.add_assoc, hk3, List.length_append, hm3]; rfl
    ·have hme : j + 1 + m = rows.length := by omega
     rw [hme] at hm3 hls ⊢
     repeat (first|refine lVa rfl rfl (by first|exact pEv rfl|fail) ?_|refine lNi ?_|refine cRg ?_|refine cSq ?_|refine xTh ?_|refine c_dec_f rfl (by first|omega|fail) ?_|refine c_exit ?_|refine xTe ?_|refine xBs ?_|refine lVa rfl rfl (v_sliceL rfl rfl rfl rfl rfl (by omega) (by omega)) ?_|fail)
     have hkl2 : k <= rows.length := by omega
     have hfl : ((kp drK DR.l rows rows.length ++ rows.drop k).map drE).flatten ++ rest = ((kp drK DR.l rows rows.length).map drE).flatten ++ (((rows.drop k).map drE).flatten ++ rest) := by
      rw [List.map_append, List.flatten_append, List.append_assoc]
     have hl1 : ((kp drK DR.l rows rows.length).map drE).flatten.length = k * 3 := by rw [dr_rows, hm3]
     have hl2 : ((rows.drop k).map drE).flatten.length = (rows.length - k) * 3 := by rw [dr_rows, List.length_drop]
     refine r_clear rfl rfl rfl rfl rfl rfl (fun _ => Upd.head) (by rw [List.length_append, dr_rows, hls]; omega) (fun zs hz => ?_)
     have hsp : splice (((kp drK DR.l rows rows.length ++ rows.drop k).map drE).flatten ++ rest) (0 + k * 3) zs = ((kp drK DR.l rows rows.length).map drE).flatten ++ (zs ++ rest) := by
      rw [hfl, Nat.zero_add]
      unfold splice
      rw [<- hl1, List.take_left, List.drop_append, List.drop_of_length_le (by omega), List.nil_append, Nat.add_sub_cancel_left, List.drop_append, List.drop_of_length_le (by rw [hl2, hz]; exact Nat.le_refl _), hl2, hz, Nat.sub_self, List.drop_zero, List.nil_append, List.append_assoc]
     rw [hsp]
     repeat (first|refine lVa rfl rfl (by first|exact pEv rfl|fail) ?_|refine lNi ?_|refine cRg ?_|refine cSq ?_|refine xTh ?_|refine c_ret ?_|refine xTr ?_|refine xBr ?_|refine lVa rfl rfl (v_sliceH rfl rfl rfl rfl rfl (by omega)) ?_|fail)
     have hgl := hgr.all
     rw [List.length_append, dr_rows] at hgl
     rw [<- hm3]
     exact x_ret rfl rfl (by repeat constructor) rfl (fun W hW => ⟨⟨zs ++ rest, ⟨dr_rows _, by rw [List.length_append, List.length_append, dr_rows, hz, hm3]; omega, by omega, hcm⟩⟩, rfl, hW⟩)
  ·have hkr : k = rows.length := by omega
   subst hkr
   have hk2 : kp drK DR.l rows rows.length = rows := by rw [kp_all (Nat.le_refl _) hF, List.take_length]
   rw [hk2]
   repeat (first|refine lVa rfl rfl (by first|exact pEv rfl|fail) ?_|refine lNi ?_|refine cRg ?_|refine cSq ?_|refine xTh ?_|refine c_dec_f rfl (by first|omega|fail) ?_|refine c_ret ?_|refine c_exit ?_|refine xTe ?_|refine xBs ?_|fail)
   exact x_ret rfl rfl (by repeat constructor) rfl (fun W hW => ⟨⟨rest, hgr⟩, rfl, hW⟩)
end R24
end Go.Proofs
