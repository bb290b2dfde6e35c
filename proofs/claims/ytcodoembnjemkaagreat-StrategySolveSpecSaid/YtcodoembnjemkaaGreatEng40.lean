/- How decisions are ordered. Plain Lean. -/
import Derived.Test.YtcodoembnjemkaaGreatSgCmr
import Derived.Sort.Statements
import Derived.Test.YtcodoembnjemkaaGreatSgCmp
set_option linter.unusedSectionVars false
set_option linter.unusedVariables false
set_option linter.unusedSimpArgs false
namespace Go.Proofs
open Go.Kin.Sg Go.Sort
namespace R24
theorem cmpI_neg {x y : Int} : cmpI x y < 0 ↔ x < y := by unfold cmpI; split <;> (try split) <;> omega
theorem cmpI_zero {x y : Int} : cmpI x y = 0 ↔ x = y := by unfold cmpI; split <;> (try split) <;> omega
theorem cmpL_cons {x y : Int} {a b : List Int} : cmpL (x :: a) (y :: b) = or2 (cmpI x y) (cmpL a b) := by
 rw [cmpL]; unfold or2 cmpI
 split <;> (try split) <;> simp_all
theorem or2_neg {x y : Int} : or2 x y < 0 ↔ x < 0 ∨ (x = 0 /\ y < 0) := by unfold or2; split <;> omega
theorem or2_zero {x y : Int} : or2 x y = 0 ↔ x = 0 /\ y = 0 := by unfold or2; split <;> omega
theorem cmpL_zero : ∀ {a b : List Int}, a.length = b.length -> (cmpL a b = 0 ↔ a = b)
 | [], [], _ => by simp [cmpL]
 | x :: a, y :: b, h => by
  rw [cmpL_cons, or2_zero, cmpI_zero, cmpL_zero (by simpa using h)]
  simp
theorem cmpL_trans : ∀ {a b c : List Int}, a.length = b.length -> b.length = c.length -> cmpL a b < 0 -> cmpL b c < 0 -> cmpL a c < 0
 | [], [], _, _, _, h, _ => by simp [cmpL] at h
 | x :: a, y :: b, z :: c, h1, h2, h3, h4 => by
  rw [cmpL_cons, or2_neg, cmpI_neg, cmpI_zero] at *
  rcases h3 with h3 | ⟨h3, h3'⟩ <;> rcases h4 with h4 | ⟨h4, h4'⟩
  ·left; omega
  ·left; omega
  ·left; omega
  ·right; exact ⟨by omega, cmpL_trans (by simpa using h1) (by simpa using h2) h3' h4'⟩
theorem cmpL_asym : ∀ {a b : List Int}, a.length = b.length -> (cmpL a b < 0 ∨ a = b ∨ cmpL b a < 0)
 | [], [], _ => .inr (.inl rfl)
 | x :: a, y :: b, h => by
  rw [cmpL_cons, cmpL_cons, or2_neg, or2_neg, cmpI_neg, cmpI_zero, cmpI_neg, cmpI_zero]
  by_cases h1 : x < y
  ·exact .inl (.inl h1)
  ·by_cases h2 : y < x
   ·exact .inr (.inr (.inl h2))
   ·have e : x = y := by omega
    subst e
    rcases cmpL_asym (a := a) (b := b) (by simpa using h) with h3 | rfl | h3
    ·exact .inl (.inr ⟨rfl, h3⟩)
    ·exact .inr (.inl rfl)
    ·exact .inr (.inr (.inr ⟨rfl, h3⟩))
/-- how decisions are compared -/
def cmpK (k1 : Int) (a : List Int) (k2 : Int) (b : List Int) : Int := or2 (cmpI k1 k2) (cmpL a b)
theorem cmpK_zero {k1 k2 : Int} {a b : List Int} (h : a.length = b.length) : cmpK k1 a k2 b = 0 ↔ k1 = k2 /\ a = b := by unfold cmpK; rw [or2_zero, cmpI_zero, cmpL_zero h]
theorem cmpK_tri {k1 k2 : Int} {a b : List Int} (h : a.length = b.length) : cmpK k1 a k2 b < 0 ∨ (k1 = k2 /\ a = b) ∨ cmpK k2 b k1 a < 0 := by
 unfold cmpK
 rw [or2_neg, or2_neg, cmpI_neg, cmpI_zero, cmpI_neg, cmpI_zero]
 by_cases h1 : k1 < k2
 ·exact .inl (.inl h1)
 ·by_cases h2 : k2 < k1
  ·exact .inr (.inr (.inl h2))
  ·have e : k1 = k2 := by omega
   subst e
   rcases cmpL_asym h with h3 | rfl | h3
   ·exact .inl (.inr ⟨rfl, h3⟩)
   ·exact .inr (.inl ⟨rfl, rfl⟩)
   ·exact .inr (.inr (.inr ⟨rfl, h3⟩))
theorem cmpK_trans {k1 k2 k3 : Int} {a b c : List Int} (h1 : a.length = b.length) (h2 : b.length = c.length) (h3 : cmpK k1 a k2 b < 0) (h4 : cmpK k2 b k3 c < 0) : cmpK k1 a k3 c < 0 := by
 unfold cmpK at *
 rw [or2_neg, cmpI_neg, cmpI_zero] at *
 rcases h3 with h3 | ⟨h3, h3'⟩ <;> rcases h4 with h4 | ⟨h4, h4'⟩
 ·left; omega
 ·left; omega
 ·left; omega
 ·right; exact ⟨by omega, cmpL_trans h1 h2 h3' h4'⟩
theorem cmpK_irrefl {k : Int} {a : List Int} : ¬ cmpK k a k a < 0 := by
 rw [(cmpK_zero rfl).2 ⟨rfl, rfl⟩]; omega
theorem swoK {α : Type} (k : α -> Int) (l : α -> List Int) (n : Nat) (h : ∀ x, (l x).length = n) : SWO (fun x y => decide (cmpK (k x) (l x) (k y) (l y) < 0)) where
 irrefl := fun x => decide_eq_false cmpK_irrefl
 trans := fun x y z h1 h2 => decide_eq_true (cmpK_trans (by rw [h, h]) (by rw [h, h]) (of_decide_eq_true h1) (of_decide_eq_true h2))
 ntrans := fun x y z h1 h2 => by
  have h1 := of_decide_eq_false h1
  have h2 := of_decide_eq_false h2
  refine decide_eq_false fun h3 => ?_
  rcases cmpK_tri (k1 := k x) (k2 := k y) (a := l x) (b := l y) (by rw [h, h]) with h4 | ⟨h4, h5⟩ | h4
  ·exact h1 h4
  ·rw [h4, h5] at h3; exact h2 h3
  ·exact h2 (cmpK_trans (by rw [h, h]) (by rw [h, h]) h4 h3)
end R24
end Go.Proofs

namespace Go.Proofs
open Go.RowKit Go.Kin Go.Kin.St Go.Kin.Ct Go.Kin.Sg Go.Shelf Go.Sort
namespace R24
theorem flatK_list {α : Type} [Inhabited α] (enc : α -> List Value) (hk : ∀ x, (enc x).length = 3) (d : Array α) : (flatK enc 3 d).toList = (d.toList.map enc).flatten := by
 have hlen : ∀ l : List α, (l.map enc).flatten.length = l.length * 3 := fun l => by
  induction l with
  | nil => rfl
  | cons x l ih => rw [List.map_cons, List.flatten_cons, List.length_append, ih, hk, List.length_cons]; omega
 have hget : ∀ (l : List α) (t : Nat), t < l.length * 3 -> (l.map enc).flatten[t]? = (enc (l.getD (t / 3) default))[t % 3]? := fun l => by
  induction l with
  | nil => intro t ht; simp at ht
  | cons x l ih =>
   intro t ht
   rw [List.map_cons, List.flatten_cons]
   by_cases h : t < 3
   ·rw [List.getElem?_append_left (by rw [hk]; exact h), Nat.div_eq_of_lt h, Nat.mod_eq_of_lt h]; rfl
   ·rw [List.getElem?_append_right (by rw [hk]; omega), hk, ih (t - 3) (by rw [List.length_cons] at ht; omega)]
    obtain ⟨u, rfl⟩ : ∃ u, t = u + 3 := ⟨t - 3, by omega⟩
    rw [Nat.add_sub_cancel, Nat.add_div_right u (by omega), Nat.add_mod_right]; rfl
 refine List.ext_getElem? fun t => ?_
 by_cases h : t < d.size * 3
 ·rw [hget _ _ (by simpa using h), Array.getElem?_toList]
  have h2 := get_flatK enc 3 d t h
  rw [getElem!_pos _ t (by simpa using h)] at h2
  rw [Array.getElem?_eq_getElem (by simpa using h), h2]
  have h3 : t / 3 < d.size := by omega
  have h4 : d.toList.getD (t / 3) default = d[t / 3]! := by
   rw [getElem!_pos d _ h3, List.getD_eq_getElem?_getD, Array.getElem?_toList, Array.getElem?_eq_getElem h3]; rfl
  rw [h4, getElem!_pos (enc d[t / 3]!) (t % 3) (by rw [hk]; omega), List.getElem?_eq_getElem]
 ·rw [List.getElem?_eq_none (by simp; omega), List.getElem?_eq_none (by rw [hlen]; simpa using h)]
theorem row_holds {α : Type} [Inhabited α] {enc : α -> List Value} (hk : ∀ x, (enc x).length = 3) {d : Array α} {w : World} {b : Nat} {cs rest : List Value} {T : TypeId} (hb : w.heap[b]? = some (.cells ⟨cs ++ rest⟩ T (0, 0))) (hc : (d.toList.map enc).flatten = cs) : HoldsK enc 3 w b 0 d := by
 intro j hj
 have hl := flatK_list enc hk d
 rw [hc] at hl
 have hj2 : j < cs.length := by rw [<- hl]; simpa using hj
 constructor
 ·unfold World.cell?
  simp only [Nat.zero_add, hb]
  show (cs ++ rest).toArray[j]? = _
  rw [List.getElem?_toArray, List.getElem?_append_left hj2, <- hl, Array.getElem?_toList, Array.getElem?_eq_getElem hj, getElem!_pos _ j hj]; rfl
 ·unfold World.frozen?
  simp [hb]
theorem row_put {α : Type} [Inhabited α] {enc : α -> List Value} (hk : ∀ x, (enc x).length = 3) {d : Array α} {w : World} {b : Nat} {cs rest : List Value} {T : TypeId} (hb : w.heap[b]? = some (.cells ⟨cs ++ rest⟩ T (0, 0))) (hc : d.size * 3 = cs.length) :
  (putRowK enc 3 w b 0 d).heap[b]? = some (.cells ⟨(d.toList.map enc).flatten ++ rest⟩ T (0, 0)) := by
 unfold putRowK putRow mapBlock
 simp only [Array.getElem?_modify, if_true, hb, Option.map_some, onCells]
 have hl := flatK_list enc hk d
 congr 2
 rw [<- hl]
 apply Array.ext'
 unfold putCells
 simp only [Array.toList_mapIdx, Nat.zero_le, true_and, Nat.zero_add, Nat.sub_zero, id]
 refine List.ext_getElem? fun t => ?_
 rw [List.getElem?_mapIdx]
 have hs : (flatK enc 3 d).toList.length = cs.length := by simp [hc]
 by_cases ht : t < cs.length
 ·rw [List.getElem?_append_left ht, List.getElem?_append_left (by omega), List.getElem?_eq_getElem ht]
  have h3 : t < (flatK enc 3 d).size := by simpa [hc] using ht
  simp only [Option.map_some, h3, if_true]
  rw [Array.getElem?_toList, Array.getElem?_eq_getElem h3, getElem!_pos _ t h3]
 ·rw [List.getElem?_append_right (by omega), List.getElem?_append_right (by omega), hs]
  have h3 : ¬ t < (flatK enc 3 d).size := by simpa [hc] using ht
  simp only [h3, if_false]
  cases rest[t - cs.length]? <;> rfl
theorem row_other {α : Type} [Inhabited α] {enc : α -> List Value} {d : Array α} {w : World} {b k : Nat} (h : k ≠ b) : (putRowK enc 3 w b 0 d).heap[k]? = w.heap[k]? := by
 unfold putRowK putRow mapBlock
 simp [Array.getElem?_modify, Ne.symm h]
theorem row_size {α : Type} [Inhabited α] {enc : α -> List Value} {d : Array α} {w : World} {b : Nat} : (putRowK enc 3 w b 0 d).heap.size = w.heap.size := by
 unfold putRowK putRow mapBlock
 simp
theorem sortW_same {α : Type} [Inhabited α] {enc : α -> List Value} {d : Array α} {w : World} {b m : Nat} {os : Array Obj} {ks : List Nat} (h : b ∈ ks) : Same (allBut w ks) w (sortWorldK enc 3 w b 0 m d os) where
 os := rfl
 tape := rfl
 output := rfl
 size := by
  unfold sortWorldK grow
  simp only [Array.size_append, row_size]
  show w.heap.size <= w.heap.size + _
  omega
 block := fun k hk hD => by
  have h1 : k ≠ b := fun e => hD.2 (e ▸ h)
  unfold sortWorldK
  rw [heap_grow_old _ _ (by rw [row_size]; exact hk), row_other h1]
  rfl
theorem sortW_row {α : Type} [Inhabited α] {enc : α -> List Value} (hk : ∀ x, (enc x).length = 3) {d : Array α} {w : World} {b m : Nat} {os : Array Obj} {cs rest : List Value} {T : TypeId} (hb : w.heap[b]? = some (.cells ⟨cs ++ rest⟩ T (0, 0))) (hc : d.size * 3 = cs.length) :
  (sortWorldK enc 3 w b 0 m d os).heap[b]? = some (.cells ⟨(d.toList.map enc).flatten ++ rest⟩ T (0, 0)) := by
 have h1 : (Sort.ahead w m).heap[b]? = some (.cells ⟨cs ++ rest⟩ T (0, 0)) := hb
 have h2 : b < w.heap.size := (Array.getElem?_eq_some_iff.1 hb).1
 unfold sortWorldK
 rw [heap_grow_old _ _ (by rw [row_size]; exact h2)]
 exact row_put hk h1 hc
theorem sortW_cell {α : Type} [Inhabited α] {enc : α -> List Value} {d : Array α} {w : World} {b m : Nat} {os : Array Obj} {a : Addr} {v : Value} (h : w.cell? a = some v) (hne : a.block ≠ b) : (sortWorldK enc 3 w b 0 m d os).cell? a = some v := by
 have hlt := lt_of_cell h
 unfold sortWorldK
 rw [cell?_grow _ _ _ (by rw [row_size]; exact hlt)]
 unfold putRowK
 rw [cell?_putRow_other id _ _ _ _ _ (Or.inl hne)]
 exact h
/-! ## SortFunc -/
def drLe (x y : DR) : Prop := ¬ cmpK y.k y.l x.k x.l < 0
theorem drE_len {r : DR} : (drE r).length = 3 := rfl
theorem permIn_all {α : Type} [Inhabited α] {d d' : Array α} (h : PermIn 0 d.size d d') : d'.toList.Perm d.toList := by
 obtain ⟨h1, _, h3⟩ := h
 have e1 : d'.extract 0 d.size = d' := by rw [<- h1]; simp
 have e2 : d.extract 0 d.size = d := by simp
 rw [e1, e2] at h3
 exact h3
theorem sortedIn_all {α : Type} [Inhabited α] {lt : α -> α -> Bool} {d : Array α} {n : Nat} (h : SortedIn lt 0 n d) (hn : d.size = n) : d.toList.Pairwise (fun x y => lt y x = false) := by
 rw [List.pairwise_iff_getElem]
 intro i j hi hj hij
 have h1 := h i j (Nat.zero_le _) hij (by simpa [hn] using hj)
 rw [getElem!_pos d j (by simpa using hj), getElem!_pos d i (by simpa using hi)] at h1
 simpa using h1
theorem sf57 : ∃ fs, Tryz.prog.underlying 39 = some (.struct fs) := by
 have h : (match Tryz.prog.underlying 39 with | some (.struct _) => true | _ => false) = true := by kernel_rfl
 cases h2 : Tryz.prog.underlying 39 with
 | none => rw [h2] at h; cases h
 | some d =>
  rw [h2] at h
  cases d <;> first|exact ⟨_, rfl⟩|cases h
theorem sa57 : ∀ w, (isAgg 39).run Tryz.prog w = .ok true w := fun w => by
 obtain ⟨fs, h⟩ := sf57
 simp only [isAgg, Sem.run_bind, run_und h, Result.andThen_ok]; rfl
theorem ss57 : ∀ w, (Go.sizeOf 39).run Tryz.prog w = .ok 3 w := fun w => by
 cases h : Tryz.prog.info? 39 with
 | none =>
  have h2 : (Tryz.prog.info? 39).isSome = true := by kernel_rfl
  rw [h] at h2; cases h2
 | some i =>
  have h2 : (Tryz.prog.info? 39).map (·.size) = some 3 := by kernel_rfl
  rw [h] at h2
  rw [run_size h, show i.size = 3 by simpa using h2]
theorem sort_calls (rows : List DR) (b cap n : Nat) (rest : List Value) (w : World) (hl : ∀ r ∈ rows, r.l.length = n) (hn : n <= 1000) (hne : rows ≠ []) (hlen : rows.length <= 10000000)
  (hk : ∀ r ∈ rows, r.bk ≠ b /\ ∀ k x, r.l[k]? = some x -> w.cell? ⟨r.bk, 0 + k, none⟩ = some (.int .i64 x)) (hb : w.heap[b]? = some (.cells ⟨(rows.map drE).flatten ++ rest⟩ 39 (0, 0))) :
  Calls Tryz.prog 69 ⟨[.slice (some ⟨b, 0, none⟩) rows.length cap, .func (.func 50) #[] #[]]⟩ w
   (FrQ [(b, .cells ⟨(rows.map drE).flatten ++ rest⟩ 39 (0, 0))] (fun _ : { rs : List DR // rs.Perm rows /\ rs.Pairwise drLe } => .tuple #[]) (fun i => [(b, .cells ⟨(i.1.map drE).flatten ++ rest⟩ 39 (0, 0))]) w) := by
 obtain ⟨r0, hr0⟩ := List.exists_mem_of_ne_nil _ hne
 letI : Inhabited { r : DR // r ∈ rows } := ⟨⟨r0, hr0⟩⟩
 have hd : (rows.attach.toArray.toList.map fun x : { r : DR // r ∈ rows } => drE x.1).flatten = (rows.map drE).flatten := by
  rw [show rows.attach.toArray.toList = rows.attach from rfl, show (fun x : { r : DR // r ∈ rows } => drE x.1) = drE ∘ Subtype.val from rfl, <- List.map_map, List.attach_map_subtype_val]
 have hsz : rows.attach.toArray.size = rows.length := by simp
 have hO : SWO (ltOf fun x y : { r : DR // r ∈ rows } => cmpK x.1.k x.1.l y.1.k y.1.l) := swoK (fun x : { r : DR // r ∈ rows } => (x.1.k : Int)) (fun x => x.1.l) n (fun x => hl _ x.2)
 have H := AnyQ.slices_SortFunc laySort 3 (α := { r : DR // r ∈ rows }) sa57 ss57 (fun x => drE x.1) (fun _ => rfl) (fun x v hv => by
   simp only [drE, List.mem_cons, List.not_mem_nil, or_false] at hv
   rcases hv with rfl | rfl | rfl <;> rfl) (fun x y => cmpK x.1.k x.1.l y.1.k y.1.l) hO 50 #[] b 0 cap rows.attach.toArray w (fun args w => Ent.ok args w) (by
   intro m os dk hs x y
   have h1 : ∀ (z : { r : DR // r ∈ rows }) (k : Nat) (v : Int), z.1.l[k]? = some v -> (sortWorldK (fun x : { r : DR // r ∈ rows } => drE x.1) 3 w b 0 m dk os).cell? ⟨z.1.bk, 0 + k, none⟩ = some (.int .i64 v) := fun z k v hv => sortW_cell ((hk _ z.2).2 k v hv) (hk _ z.2).1
   exact compare_any x.1.k y.1.k x.1.bk 0 x.1.ck y.1.bk 0 y.1.ck x.1.l y.1.l _ _ rfl rfl _ (by rw [hl _ x.2, hl _ y.2]) (by rw [hl _ x.2]; exact hn) (h1 x) (h1 y)) (row_holds (fun _ => rfl) hb hd) (Array.getElem?_eq_some_iff.1 hb).1 (by rw [hsz]; omega)
 rw [hsz] at H
 refine H.mono ?_
 rintro e w' ⟨he, d', m, os, hp, hs, rfl⟩
 have hp2 := permIn_all (by rw [hsz]; exact hp)
 have hs2 := sortedIn_all hs (by rw [hp.1, hsz])
 refine ⟨⟨d'.toList.map (·.1), ?_, ?_⟩, he, ?_⟩
 ·have h2 := hp2.map (fun x : { r : DR // r ∈ rows } => x.1)
  rwa [show rows.attach.toArray.toList = rows.attach from rfl, List.attach_map_subtype_val] at h2
 ·rw [List.pairwise_map]
  exact hs2.imp fun {x y} h => of_decide_eq_false h
 ·have hbl : b < w.heap.size := (Array.getElem?_eq_some_iff.1 hb).1
  refine ⟨sortW_same (by simp), fun k hkk => hkk.1, by simp, fun p hpp => ?_, closed_noJ, trivial⟩
  rw [List.mem_singleton.1 hpp]
  refine ⟨fun h => h.2 (by simp), ?_⟩
  have h3 := sortW_row (enc := fun x : { r : DR // r ∈ rows } => drE x.1) (fun _ => rfl) (d := d') (m := m) (os := os) hb (by
   rw [hp.1, hsz, dr_rows])
  rw [h3]
  simp only [List.map_map]
  rfl
end R24
end Go.Proofs

namespace Go.Proofs
open Go.Kin.Sg
namespace R24
section
variable {α : Type} (k : α -> Int) (l : α -> List Int)
def eqR (x y : α) : Bool := decide (cmpK (k x) (l x) (k y) (l y) = 0)
/-- the place holds what the one ahead of it holds -/
def dup (rows : List α) (m : Nat) : Bool := match m with
 | 0 => false
 | m + 1 => match rows[m + 1]?, rows[m]? with
   | some y, some x => eqR k l y x
   | _, _ => false
/-- what remains of the first places -/
def kp (rows : List α) : Nat -> List α
 | 0 => []
 | m + 1 => kp rows m ++ if dup k l rows m then [] else rows[m]?.toList
variable {k l}
theorem dup_at {rows : List α} {m : Nat} {x y : α} (hy : rows[m + 1]? = some y) (hx : rows[m]? = some x) : dup k l rows (m + 1) = eqR k l y x := by simp only [dup, hy, hx]
theorem kp_dup {rows : List α} {m : Nat} (h : dup k l rows m = true) : kp k l rows (m + 1) = kp k l rows m := by rw [kp, if_pos h, List.append_nil]
theorem kp_new {rows : List α} {m : Nat} {x : α} (h : dup k l rows m = false) (hx : rows[m]? = some x) : kp k l rows (m + 1) = kp k l rows m ++ [x] := by rw [kp, h, hx]; rfl
theorem kp_all {rows : List α} : ∀ {m : Nat}, m <= rows.length -> (∀ j, j < m -> dup k l rows j = false) -> kp k l rows m = rows.take m
 | 0, _, _ => rfl
 | m + 1, hm, h => by
  have hlt : m < rows.length := by omega
  rw [kp_new (h m (by omega)) (List.getElem?_eq_getElem hlt), kp_all (by omega) fun j hj => h j (by omega), List.take_add_one, List.getElem?_eq_getElem hlt]; rfl
theorem kp_len {rows : List α} : ∀ {m : Nat}, (kp k l rows m).length <= m
 | 0 => Nat.le_refl _
 | m + 1 => by
  have := kp_len (rows := rows) (m := m)
  rw [kp]
  split
  ·rw [List.append_nil]; omega
  ·rw [List.length_append]
   cases rows[m]? <;> simp <;> omega
theorem kp_mem {rows : List α} : ∀ {m : Nat} {x : α}, x ∈ kp k l rows m -> x ∈ rows
 | m + 1, x, h => by
  rw [kp] at h
  rcases List.mem_append.1 h with h | h
  ·exact kp_mem h
  ·split at h
   ·cases h
   ·cases h2 : rows[m]? with
    | none => rw [h2] at h; cases h
    | some y =>
     rw [h2] at h
     simp only [Option.toList_some, List.mem_singleton] at h
     rw [h]; exact List.mem_of_getElem? h2
theorem kp_sub {rows : List α} : ∀ {m : Nat}, (kp k l rows m).Sublist (rows.take m)
 | 0 => List.Sublist.refl _
 | m + 1 => by
  rw [kp, List.take_add_one]
  refine kp_sub.append ?_
  split
  ·exact List.nil_sublist _
  ·exact List.Sublist.refl _
theorem kp_subl {rows : List α} {m : Nat} : (kp k l rows m).Sublist rows := kp_sub.trans (List.take_sublist _ _)
variable {n : Nat}
theorem kp_cover {rows : List α} (hl : ∀ x ∈ rows, (l x).length = n) : ∀ {m : Nat}, ∀ i, i < m -> ∀ x, rows[i]? = some x -> ∃ z ∈ kp k l rows m, k z = k x /\ l z = l x
 | m + 1, i, hi, x, hx => by
  by_cases him : i < m
  ·obtain ⟨z, h1, h2⟩ := kp_cover hl i him x hx
   exact ⟨z, by rw [kp]; exact List.mem_append_left _ h1, h2⟩
  ·have e : i = m := by omega
   subst e
   cases hd : dup k l rows i with
   | false => exact ⟨x, by rw [kp_new hd hx]; simp, rfl, rfl⟩
   | true =>
    rw [kp_dup hd]
    cases i with
    | zero => cases hd
    | succ i =>
     have hlt := (List.getElem?_eq_some_iff.1 hx).1
     have hy : rows[i]? = some rows[i] := List.getElem?_eq_getElem (by omega)
     rw [dup_at hx hy] at hd
     have h0 := of_decide_eq_true hd
     rw [cmpK_zero (by rw [hl _ (List.mem_of_getElem? hx), hl _ (List.mem_of_getElem? hy)])] at h0
     obtain ⟨z, h1, h2, h3⟩ := kp_cover (rows := rows) hl i (Nat.lt_succ_self i) _ hy
     exact ⟨z, h1, by rw [h2, h0.1], by rw [h3, h0.2]⟩
theorem kp_sorted {rows : List α} (hl : ∀ x ∈ rows, (l x).length = n) (hs : rows.Pairwise fun x y => ¬ cmpK (k y) (l y) (k x) (l x) < 0) : ∀ {m : Nat}, m <= rows.length ->
  (kp k l rows m).Pairwise (fun x y => cmpK (k x) (l x) (k y) (l y) < 0) /\ ∀ z ∈ kp k l rows m, ∀ i x, i + 1 = m -> rows[i]? = some x -> ¬ cmpK (k x) (l x) (k z) (l z) < 0
 | 0, _ => ⟨List.Pairwise.nil, fun z hz => by cases hz⟩
 | m + 1, hm => by
  have ih := kp_sorted hl hs (m := m) (by omega)
  have hx : rows[m]? = some rows[m] := List.getElem?_eq_getElem (by omega)
  have hlx := hl _ (List.mem_of_getElem? hx)
  cases hd : dup k l rows m with
  | true =>
   rw [kp_dup hd]
   refine ⟨ih.1, fun z hz i x hi h => ?_⟩
   have e : i = m := by omega
   subst e
   rw [hx] at h; cases h
   cases i with
   | zero => cases hd
   | succ i =>
    have hy : rows[i]? = some rows[i] := List.getElem?_eq_getElem (by omega)
    rw [dup_at hx hy] at hd
    have h0 := of_decide_eq_true hd
    rw [cmpK_zero (by rw [hlx, hl _ (List.mem_of_getElem? hy)])] at h0
    have h1 := ih.2 z hz i _ rfl hy
    rw [h0.1, h0.2]; exact h1
  | false =>
   rw [kp_new hd hx]
   refine ⟨?_, fun z hz i x hi h => ?_⟩
   ·rw [List.pairwise_append]
    refine ⟨ih.1, List.pairwise_singleton _ _, fun z hz y hy => ?_⟩
    rw [List.mem_singleton.1 hy]
    cases m with
    | zero => cases hz
    | succ m =>
     have hy : rows[m]? = some rows[m] := List.getElem?_eq_getElem (by omega)
     have h1 := ih.2 z hz m _ rfl hy
     have hly := hl _ (List.mem_of_getElem? hy)
     have hlz := hl _ (kp_mem hz)
     rw [dup_at hx hy] at hd
     have h0 := of_decide_eq_false hd
     have h2 := (List.pairwise_iff_getElem.1 hs) m (m + 1) (by omega) (by omega) (by omega)
     have h3 : cmpK (k rows[m]) (l rows[m]) (k rows[m + 1]) (l rows[m + 1]) < 0 := by
      rcases cmpK_tri (k1 := k rows[m]) (k2 := k rows[m + 1]) (a := l rows[m]) (b := l rows[m + 1]) (by rw [hlx, hly]) with h4 | ⟨h4, h5⟩ | h4
      ·exact h4
      ·exact absurd ((cmpK_zero (by rw [hlx, hly])).2 ⟨h4.symm, h5.symm⟩) h0
      ·exact absurd h4 h2
     rcases cmpK_tri (k1 := k z) (k2 := k rows[m]) (a := l z) (b := l rows[m]) (by rw [hlz, hly]) with h4 | ⟨h4, h5⟩ | h4
     ·exact cmpK_trans (by rw [hlz, hly]) (by rw [hlx, hly]) h4 h3
     ·rw [h4, h5]; exact h3
     ·exact absurd h4 h1
   ·have e : i = m := by omega
    subst e
    rw [hx] at h; cases h
    rcases List.mem_append.1 hz with hz | hz
    ·cases i with
     | zero => cases hz
     | succ i =>
      have hy : rows[i]? = some rows[i] := List.getElem?_eq_getElem (by omega)
      have h1 := ih.2 z hz i _ rfl hy
      have hly := hl _ (List.mem_of_getElem? hy)
      have hlz := hl _ (kp_mem hz)
      have h2 := (List.pairwise_iff_getElem.1 hs) i (i + 1) (by omega) (by omega) (by omega)
      intro h3
      rcases cmpK_tri (k1 := k z) (k2 := k rows[i]) (a := l z) (b := l rows[i]) (by rw [hlz, hly]) with h4 | ⟨h4, h5⟩ | h4
      ·exact h2 (cmpK_trans (by rw [hlx, hlz]) (by rw [hlz, hly]) h3 h4)
      ·rw [<- h4, <- h5] at h2; exact h2 h3
      ·exact h1 h4
    ·rw [List.mem_singleton.1 hz]; exact cmpK_irrefl
end
end R24
end Go.Proofs

namespace Go
open Go.RowKit Go.Sort
namespace Kin
theorem putK_splice {β : Type} : ∀ {cs vs : List Value} {o : Nat} {k : List Value -> Option β}, o + vs.length <= cs.length -> putK cs o vs k = k (splice cs o vs)
 | [], vs, o, k, h => by
  obtain ⟨h2, h1⟩ : o = 0 /\ vs = [] := by simpa using h
  subst h1
  subst h2; rfl
 | c :: cs, vs, o + 1, k, h => by
  show putK cs o vs (fun r => k (c :: r)) = _
  rw [putK_splice (by simp only [List.length_cons] at h; omega)]
  unfold splice
  simp only [List.take_succ_cons, List.cons_append]
  rw [show o + 1 + vs.length = (o + vs.length) + 1 by omega, List.drop_succ_cons]
 | c :: cs, [], 0, k, h => rfl
 | c :: cs, v :: vs, 0, k, h => by
  show putK cs 0 vs (fun r => k (v :: r)) = _
  rw [putK_splice (by simp only [List.length_cons] at h; omega)]
  unfold splice
  simp
theorem below_grow (w : World) (q : Nat) (os : Array Obj) : Below w.heap.size w (grow (w.drewN q) os) where
 os := rfl
 tape := rfl
 output := rfl
 size := by show w.heap.size <= (w.heap ++ os).size; simp
 block := fun k hk => by
  show (w.heap ++ os)[k]? = _
  rw [Array.getElem?_append_left hk]
section
variable {P : Program} {N : Nat} {c : Cx} {Q : Exit -> Act -> World -> Prop} {env : List (Nat × Value)} {mem : List (Nat × Obj)} {L l : List Oper} {tt : List (TypeId × TI)} {ty : TypeId} {pos : String} {af : Array Edge} {g : Option (Nat × Bool)} [Wide c.F]
/-- the first element of a queue is left -/
theorem r_tailM [T : TT P tt] {d t e n sz bt sz' bt' : Nat} {x : Operand} {ke : TK} {z z' : Value} {q : QP} {r xs : List Value} (hw : wantB L env g = some true) (hd : Nat.blt d N = true) (hx : evOp env x = some (q.v (n + 1))) (ht : look tt t = some ⟨.slice e, sz', bt', z'⟩)
  (hte : look tt e = some ⟨ke, sz, bt, z⟩) (hg : q.OK sz (n + 1) (r ++ xs)) (hr : r.length = sz)
  (k : ∀ q' : QP, q'.OK sz n xs -> q'.m e xs = q.m e (r ++ xs) -> RunL P N c L l Q ((d, q'.v n) :: env) mem) : RunL P N c L (⟨some d, .slice t x (some (.const (.int .i64 1))) none none, ty, pos, af, g⟩ :: l) Q env mem := by
 obtain ⟨q', h1, h2, h3⟩ := v_tailM (P := P) (N := N) (c := c) (env := env) (mem := mem) (ty := ty) (pos := pos) (af := af) (g := g) (dd := some d) hx ht hte hg hr
 exact lVa hw hd h3 (k q' h1 h2)
/-- what is not needed any more is left -/
theorem l_part {mem' : List (Nat × Obj)} (extra : List (Nat × Obj)) (hp : mem.Perm (extra ++ mem')) (k : RunL P N c L l Q env mem') : RunL P N c L l Q env mem := .mk fun a W ha hm => k.run a W ha ((hm.perm hp).mono (List.sublist_append_right _ _))
theorem c_part {x : Code} {mem' : List (Nat × Obj)} (extra : List (Nat × Obj)) (hp : mem.Perm (extra ++ mem')) (k : RunC P N c x Q env mem') : RunC P N c x Q env mem := .mk fun a W ha hm => k.run a W ha ((hm.perm hp).mono (List.sublist_append_right _ _))
/-- a block of one's own that a call leaves alone -/
theorem ext_own {w0 W : World} {D : Nat -> Prop} {J : (Nat -> Prop) -> World -> Prop} {pre mem0 : List (Nat × Obj)} (h : SatW w0 D J mem W) (hp : mem.Perm (pre ++ mem0)) {b : Nat} {vs : List Value} {T : TypeId} {fr : Nat × Nat} (hb : (b, Obj.cells ⟨vs⟩ T fr) ∈ mem0) : Ext W (allBut W (pre.map (·.1))) b 0 vs := by
 have h1 := h.perm hp
 have hb2 := List.mem_append_right pre hb
 refine ⟨⟨h1.lt hb2, fun hm => ?_⟩, fun j v hj => by rw [Nat.zero_add, h1.cellAt hb2]; exact hj⟩
 have hnd := h1.nodup
 rw [List.map_append, List.nodup_append] at hnd
 exact hnd.2.2 _ hm _ (List.mem_map.2 ⟨_, hb, rfl⟩) rfl
end
end Kin
end Go
