/- Sorting numbers, and lists without repeats, by the shelf's contracts. -/
import Derived.Test.YtajnkdgbpffinaaGreatClB
import Derived.Test.YtajnkdgbpffinaaGreatRgF
import Derived.Shelf.Sort.Plain
import Derived.Shelf.Slices.In.SortNone
import Derived.Shelf.Slices.CompactI
import Derived.Shelf.GgSortFunc.Insertion
set_option maxRecDepth 100000
set_option maxHeartbeats 400000000
set_option linter.unusedSectionVars false
set_option linter.unusedVariables false
set_option linter.unusedSimpArgs false
namespace Go.Proofs
open Go.RowKit Go.Kin Go.Kin.Cl Go.Shelf Go.Sort
namespace R41
def renS189 : Ren := ⟨fun i => if i = 189 then 59 else if i = 125 then 44 else if i = 257 then 89 else if i = 128 then 81 else if i = 129 then 82 else if i = 294 then 107 else if i = 295 then 108 else if i = 296 then 109 else if i = 297 then 110 else if i = 298 then 111 else if i = 299 then 112 else if i = 216 then 90 else if i = 300 then 113 else if i = 301 then 114 else if i = 328 then 125 else if i = 329 then 101 else if i = 330 then 102 else if i = 331 then 126 else if i = 332 then 127 else if i = 215 then 92 else if i = 343 then 129 else i, fun i => if i = 28 then 28 else if i = 3 then 3 else if i = 46 then 103 else if i = 0 then 0 else if i = 51 then 23 else if i = 53 then 144 else if i = 4 then 4 else if i = 183 then 137 else if i = 182 then 136 else if i = 131 then 82 else if i = 5 then 5 else if i = 9 then 9 else if i = 218 then 165 else if i = 222 then 147 else if i = 228 then 182 else if i = 229 then 183 else i, fun i => i⟩
theorem layS189 : Lays.n189 Tryz.prog renS189 where
 mixed := by kernel_rfl
 f125 := by kernel_rfl
 f128 := by kernel_rfl
 f129 := by kernel_rfl
 f189 := by kernel_rfl
 f215 := by kernel_rfl
 f216 := by kernel_rfl
 f257 := by kernel_rfl
 f294 := by kernel_rfl
 f295 := by kernel_rfl
 f296 := by kernel_rfl
 f297 := by kernel_rfl
 f298 := by kernel_rfl
 f299 := by kernel_rfl
 f300 := by kernel_rfl
 f301 := by kernel_rfl
 f328 := by kernel_rfl
 f329 := by kernel_rfl
 f330 := by kernel_rfl
 f331 := by kernel_rfl
 f332 := by kernel_rfl
 f343 := by kernel_rfl
 t0 := Tryz.underlying0
 a0 := Tryz.isAgg0
 z0 := Tryz.sizeOf0
 v0 := Tryz.zeroValue0
 t3 := Tryz.underlying3
 a3 := Tryz.isAgg3
 z3 := Tryz.sizeOf3
 v3 := Tryz.zeroValue3
 t4 := Tryz.underlying4
 a4 := Tryz.isAgg4
 z4 := Tryz.sizeOf4
 v4 := Tryz.zeroValue4
 t5 := Tryz.underlying5
 a5 := Tryz.isAgg5
 z5 := Tryz.sizeOf5
 v5 := Tryz.zeroValue5
 t9 := Tryz.underlying9
 a9 := Tryz.isAgg9
 z9 := Tryz.sizeOf9
 v9 := Tryz.zeroValue9
 t28 := Tryz.underlying28
 a28 := Tryz.isAgg28
 z28 := Tryz.sizeOf28
 v28 := Tryz.zeroValue28
 t46 := Tryz.underlying103
 a46 := Tryz.isAgg103
 z46 := Tryz.sizeOf103
 v46 := Tryz.zeroValue103
 t51 := Tryz.underlying23
 a51 := Tryz.isAgg23
 z51 := Tryz.sizeOf23
 v51 := Tryz.zeroValue23
 t53 := Tryz.underlying144
 a53 := Tryz.isAgg144
 z53 := Tryz.sizeOf144
 v53 := Tryz.zeroValue144
 t131 := Tryz.underlying82
 a131 := Tryz.isAgg82
 z131 := Tryz.sizeOf82
 v131 := Tryz.zeroValue82
 t182 := Tryz.underlying136
 a182 := Tryz.isAgg136
 z182 := Tryz.sizeOf136
 v182 := Tryz.zeroValue136
 t183 := Tryz.underlying137
 a183 := Tryz.isAgg137
 z183 := Tryz.sizeOf137
 v183 := Tryz.zeroValue137
 t218 := Tryz.underlying165
 a218 := Tryz.isAgg165
 z218 := Tryz.sizeOf165
 v218 := Tryz.zeroValue165
 t222 := Tryz.underlying147
 a222 := Tryz.isAgg147
 z222 := Tryz.sizeOf147
 v222 := Tryz.zeroValue147
 t228 := Tryz.underlying182
 a228 := Tryz.isAgg182
 z228 := Tryz.sizeOf182
 v228 := Tryz.zeroValue182
 t229 := Tryz.underlying183
 a229 := Tryz.isAgg183
 z229 := Tryz.sizeOf183
 v229 := Tryz.zeroValue183
def renC20 : Ren := ⟨fun i => if i = 20 then 60 else i, fun i => if i = 22 then 28 else if i = 3 then 3 else if i = 4 then 4 else if i = 0 then 0 else i, fun i => i⟩
theorem layC20 : Lays2.n20 Tryz.prog renC20 where
 mixed := by kernel_rfl
 f20 := by kernel_rfl
 t0 := Tryz.underlying0
 a0 := Tryz.isAgg0
 z0 := Tryz.sizeOf0
 v0 := Tryz.zeroValue0
 t3 := Tryz.underlying3
 a3 := Tryz.isAgg3
 z3 := Tryz.sizeOf3
 v3 := Tryz.zeroValue3
 t4 := Tryz.underlying4
 a4 := Tryz.isAgg4
 z4 := Tryz.sizeOf4
 v4 := Tryz.zeroValue4
 t22 := Tryz.underlying28
 a22 := Tryz.isAgg28
 z22 := Tryz.sizeOf28
 v22 := Tryz.zeroValue28
 i3 := by kernel_rfl
theorem row_holds1 {α : Type} [Inhabited α] {enc : α -> Value} {d : Array α} {w : World} {b : Nat} {cs rest : List Value} {T : TypeId} (hb : w.heap[b]? = some (.cells ⟨cs ++ rest⟩ T (0, 0))) (hc : d.toList.map enc = cs) : Holds enc w b 0 d := by
 intro j hj
 have hj2 : j < cs.length := by rw [<- hc]; simpa using hj
 constructor
 ·unfold World.cell?
  simp only [Nat.zero_add, hb]
  show (cs ++ rest).toArray[j]? = _
  rw [List.getElem?_toArray, List.getElem?_append_left hj2, <- hc, List.getElem?_map, Array.getElem?_toList, Array.getElem?_eq_getElem hj, getElem!_pos _ j hj]; rfl
 ·unfold World.frozen?
  simp [hb]
theorem row_put1 {α : Type} [Inhabited α] {enc : α -> Value} {d : Array α} {w : World} {b : Nat} {cs rest : List Value} {T : TypeId} (hb : w.heap[b]? = some (.cells ⟨cs ++ rest⟩ T (0, 0))) (hc : d.size = cs.length) :
  (putRow enc w b 0 d).heap[b]? = some (.cells ⟨d.toList.map enc ++ rest⟩ T (0, 0)) := by
 unfold putRow mapBlock
 simp only [Array.getElem?_modify, if_true, hb, Option.map_some, onCells]
 congr 2
 apply Array.ext'
 unfold putCells
 simp only [Array.toList_mapIdx, Nat.zero_le, true_and, Nat.zero_add, Nat.sub_zero]
 refine List.ext_getElem? fun t => ?_
 rw [List.getElem?_mapIdx]
 have hs : (d.toList.map enc).length = cs.length := by simp [hc]
 by_cases ht : t < cs.length
 ·rw [List.getElem?_append_left ht, List.getElem?_append_left (by omega), List.getElem?_eq_getElem ht]
  have h3 : t < d.size := by omega
  simp only [Option.map_some, h3, if_true]
  rw [List.getElem?_map, Array.getElem?_toList, Array.getElem?_eq_getElem h3, getElem!_pos _ t h3]; rfl
 ·rw [List.getElem?_append_right (by omega), List.getElem?_append_right (by omega), hs]
  have h3 : ¬ t < d.size := by omega
  simp only [h3, if_false]
  cases rest[t - cs.length]? <;> rfl
theorem row_other1 {α : Type} [Inhabited α] {enc : α -> Value} {d : Array α} {w : World} {b k : Nat} (h : k ≠ b) : (putRow enc w b 0 d).heap[k]? = w.heap[k]? := by
 unfold putRow mapBlock
 simp [Array.getElem?_modify, Ne.symm h]
theorem row_size1 {α : Type} [Inhabited α] {enc : α -> Value} {d : Array α} {w : World} {b : Nat} : (putRow enc w b 0 d).heap.size = w.heap.size := by
 unfold putRow mapBlock
 simp
theorem sortW_same1 {α : Type} [Inhabited α] {enc : α -> Value} {d : Array α} {w : World} {b m : Nat} {os : Array Obj} {ks : List Nat} (h : b ∈ ks) : Same (allBut w ks) w (sortWorld enc w b 0 m d os) where
 os := rfl
 tape := rfl
 output := rfl
 drawn := Nat.le_add_right _ _
 size := by
  unfold sortWorld grow
  simp only [Array.size_append, row_size1]
  show w.heap.size <= w.heap.size + _
  omega
 block := fun k hk hD => by
  have h1 : k ≠ b := fun e => hD.2 (e ▸ h)
  unfold sortWorld
  rw [heap_grow_old _ _ (by rw [row_size1]; exact hk), row_other1 h1]
  rfl
theorem sortW_row1 {α : Type} [Inhabited α] {enc : α -> Value} {d : Array α} {w : World} {b m : Nat} {os : Array Obj} {cs rest : List Value} {T : TypeId} (hb : w.heap[b]? = some (.cells ⟨cs ++ rest⟩ T (0, 0))) (hc : d.size = cs.length) :
  (sortWorld enc w b 0 m d os).heap[b]? = some (.cells ⟨d.toList.map enc ++ rest⟩ T (0, 0)) := by
 have h1 : (Sort.ahead w m).heap[b]? = some (.cells ⟨cs ++ rest⟩ T (0, 0)) := hb
 have h2 : b < w.heap.size := (Array.getElem?_eq_some_iff.1 hb).1
 unfold sortWorld
 rw [heap_grow_old _ _ (by rw [row_size1]; exact h2)]
 exact row_put1 h1 hc
def flZ (l : List Int) : List Value := l.map fun x => Value.int .i64 x
theorem flZ_len (l : List Int) : (flZ l).length = l.length := List.length_map ..
theorem flZ_eq (l : List Int) : (l.map inE).flatten = flZ l := by
 induction l with
 | nil => rfl
 | cons x l ih => rw [List.map_cons, List.flatten_cons, ih]; rfl
theorem compact_le (zs : List Int) : (Lib.compact zs).length <= zs.length := by
 unfold Lib.compact Lib.compactUpTo
 rw [List.length_map]
 exact Nat.le_trans (List.length_filter_le _ _) (by simp)
theorem compact60_calls (zs : List Int) (b cap : Nat) (rest : List Value) (w : World) (hb : w.heap[b]? = some (.cells ⟨flZ zs ++ rest⟩ 3 (0, 0))) (hl : zs.length <= 1000) (hc : zs.length <= cap) :
  Calls Tryz.prog 60 ⟨[.slice (some ⟨b, 0, none⟩) zs.length cap]⟩ w (FrQ [(b, .cells ⟨flZ zs ++ rest⟩ 3 (0, 0))] (fun _ : Unit => .slice (some ⟨b, 0, none⟩) (Lib.compact zs).length cap)
   (fun _ => [(b, .cells ⟨flZ (Lib.compact zs) ++ (List.replicate (zs.length - (Lib.compact zs).length) (.int .i64 0) ++ rest)⟩ 3 (0, 0))]) w) := by
 have H := Any.slices_Compact_int (P := Tryz.prog) (ρ := renC20) layC20 b 0 cap zs w (row_holds1 hb rfl) (by omega) hc
 refine H.mono ?_
 rintro e w' ⟨he, q, rfl⟩
 have hbl : b < w.heap.size := (Array.getElem?_eq_some_iff.1 hb).1
 refine ⟨(), he, ⟨⟨rfl, rfl, rfl, Nat.le_add_right _ _, ?_, ?_⟩, fun k hk => hk.1, by simp, fun p hp => ?_, closed_noJ, trivial⟩⟩
 ·rw [row_size1]; exact Nat.le_refl _
 ·intro k hk hD
  rw [row_other1 (fun e => hD.2 (by simp [e]))]; rfl
 ·rw [List.mem_singleton.1 hp]
  refine ⟨fun h => h.2 (by simp), ?_⟩
  have h1 : (Sort.ahead w q).heap[b]? = some (.cells ⟨flZ zs ++ rest⟩ 3 (0, 0)) := hb
  have hle := compact_le zs
  have h3 := row_put1 (enc := Value.int .i64) (d := (Lib.compact zs ++ List.replicate (zs.length - (Lib.compact zs).length) 0).toArray) h1 (by simp [flZ_len]; omega)
  rw [h3]
  simp [flZ]

def srtZ (zs : List Int) : List Int := zs.mergeSort fun x y => decide (x <= y)
theorem sort59_calls (zs : List Int) (b cap : Nat) (rest : List Value) (w : World) (hb : w.heap[b]? = some (.cells ⟨flZ zs ++ rest⟩ 3 (0, 0))) (hl : zs.length <= 100000) :
  Calls Tryz.prog 59 ⟨[.slice (some ⟨b, 0, none⟩) zs.length cap]⟩ w (FrQ [(b, .cells ⟨flZ zs ++ rest⟩ 3 (0, 0))] (fun _ : Unit => .tuple #[]) (fun _ => [(b, .cells ⟨flZ (srtZ zs) ++ rest⟩ 3 (0, 0))]) w) := by
 have hbl : b < w.heap.size := (Array.getElem?_eq_some_iff.1 hb).1
 have H := Any.slices_Sort_int (P := Tryz.prog) (ρ := renS189) layS189 b 0 cap zs w (row_holds1 hb rfl) hbl (by omega)
 refine H.mono ?_
 rintro e w' ⟨he, n, os, rfl⟩
 have hs := sortW_same1 (enc := Value.int .i64) (d := (zs.mergeSort fun x y => decide (x <= y)).toArray) (w := w) (b := b) (m := n) (os := os) (ks := [b]) List.mem_cons_self
 have hr := sortW_row1 (enc := Value.int .i64) (d := (zs.mergeSort fun x y => decide (x <= y)).toArray) (m := n) (os := os) hb (by simp [flZ_len, List.length_mergeSort])
 exact ⟨(), he, ⟨hs, fun k hk => hk.1, by simp, fun p hp => by
  rw [List.mem_singleton.1 hp]
  exact ⟨fun h => h.2 (by simp), hr⟩, closed_noJ, trivial⟩⟩
theorem sort59_none (p : Option Addr) (cap : Nat) (w : World) : Calls Tryz.prog 59 ⟨[.slice p 0 cap]⟩ w fun e w' => e = .returned (.tuple #[]) /\ Under w.heap.size w w' :=
 (Any.slices_Sort_int_none (P := Tryz.prog) (ρ := renS189) layS189 p cap w).mono fun _ _ ⟨h1, h2⟩ => ⟨h1, h2 ▸ Kin.Under.refl _ _⟩
theorem compact60_none (p : Option Addr) (cap : Nat) (w : World) : Calls Tryz.prog 60 ⟨[.slice p 0 cap]⟩ w fun e w' => e = .returned (.slice p 0 cap) /\ Under w.heap.size w w' :=
 (Any.slices_Compact_int_empty (P := Tryz.prog) (ρ := renC20) layC20 p cap w).mono fun _ _ ⟨h1, h2⟩ => ⟨h1, h2 ▸ Kin.Under.refl _ _⟩
end R41
end Go.Proofs
