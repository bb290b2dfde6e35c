/- Collating: tables, row by row. Plain Lean. -/
import Derived.Test.YtdegengehbdelaaGreatDoorClPl
import Derived.Test.YtdegengehbdelaaGreatDoorEng25
set_option linter.unusedSectionVars false
set_option linter.unusedVariables false
set_option linter.unusedSimpArgs false
namespace Go.Kin.Cl
/-- the codes of the second list that are alone behind `k` codes of the first one -/
def alo : List Mv -> List Int -> Nat -> List Int
 | [], _, _ => []
 | .both :: _, _, 0 => []
 | .both :: m, b, k + 1 => alo m b.tail k
 | .left :: _, _, 0 => []
 | .left :: m, b, k + 1 => alo m b k
 | .right :: m, b, 0 => b.headD 0 :: alo m b.tail 0
 | .right :: m, b, k + 1 => alo m b.tail (k + 1)
/-- the code of the second list beside a code of the first one; 0 without one -/
def bsc : List Mv -> List Int -> Nat -> Int
 | [], _, _ => 0
 | .both :: _, b, 0 => b.headD 0
 | .both :: m, b, k + 1 => bsc m b.tail k
 | .left :: _, _, 0 => 0
 | .left :: m, b, k + 1 => bsc m b k
 | .right :: m, b, k => bsc m b.tail k
/-- the reference's alone -/
def aloF (b : List Int) (many : Nat) : List (Int × Int) -> Nat -> List Int
 | [], _ => []
 | x :: p, n => (if x.1 = 0 /\ (if 0 < x.1 then n + 1 else n) = many then [b.getD (x.2 - 1).toNat 0] else []) ++ aloF b many p (if 0 < x.1 then n + 1 else n)
/-- the reference's beside -/
def besF (b : List Int) (at' : Nat) : List (Int × Int) -> Int
 | [] => 0
 | x :: p => if x.1 = at' + 1 /\ 0 < x.2 then b.getD (x.2 - 1).toNat 0 else besF b at' p
theorem tail_drop {α : Type} (l : List α) (i : Nat) : (l.drop i).tail = l.drop (i + 1) := by rw [List.tail_drop]
theorem head_drop {l : List Int} {i : Nat} (h : i < l.length) : (l.drop i).headD 0 = l.getD i 0 := by
 rw [List.drop_eq_getElem_cons h, List.getD_eq_getElem?_getD, List.getElem?_eq_getElem h]; rfl
theorem aloF_prs (b : List Int) (many : Nat) : ∀ {a' b' : List Int} {m : List Mv} {c : Int}, Al a' b' m c -> ∀ (i k : Nat), b' = b.drop k -> aloF b many (prs m i k) i = if i <= many then alo m (b.drop k) (many - i) else [] := by
 intro a' b' m c h
 induction h with
 | nil => intro i k _; simp [prs, aloF, alo]
 | both h ih =>
  intro i k hb
  obtain ⟨h1, -, h3⟩ := drop_uncons hb
  unfold prs aloF
  rw [if_neg (by simp only; omega), if_pos (show (0 : Int) < (((i : Int) + 1, (k : Int) + 1) : Int × Int).1 by simp only; omega), List.nil_append, ih (i + 1) (k + 1) h3]
  by_cases h4 : i + 1 <= many
  ·obtain ⟨j, hj⟩ : ∃ j, many - i = j + 1 := ⟨many - i - 1, by omega⟩
   rw [if_pos h4, if_pos (by omega), hj, alo, tail_drop]
   congr 1; omega
  ·rw [if_neg h4]
   by_cases h5 : i <= many
   ·rw [if_pos h5, show many - i = 0 by omega, alo]
   ·rw [if_neg h5]
 | left h ih =>
  intro i k hb
  unfold prs aloF
  rw [if_neg (by simp only; omega), if_pos (show (0 : Int) < (((i : Int) + 1, 0) : Int × Int).1 by simp only; omega), List.nil_append, ih (i + 1) k hb]
  by_cases h4 : i + 1 <= many
  ·obtain ⟨j, hj⟩ : ∃ j, many - i = j + 1 := ⟨many - i - 1, by omega⟩
   rw [if_pos h4, if_pos (by omega), hj, alo]
   congr 1; omega
  ·rw [if_neg h4]
   by_cases h5 : i <= many
   ·rw [if_pos h5, show many - i = 0 by omega, alo]
   ·rw [if_neg h5]
 | right h ih =>
  intro i k hb
  obtain ⟨h1, -, h3⟩ := drop_uncons hb
  unfold prs aloF
  rw [if_neg (show ¬ (0 : Int) < ((0, (k : Int) + 1) : Int × Int).1 by simp), ih i (k + 1) h3]
  by_cases h4 : i = many
  ·rw [if_pos ⟨rfl, h4⟩, if_pos (by omega), if_pos (by omega), show many - i = 0 by omega, alo, tail_drop, head_drop h1]
   simp only [show ((k : Int) + 1 - 1).toNat = k by omega]; rfl
  ·rw [if_neg (fun g => h4 g.2), List.nil_append]
   by_cases h5 : i <= many
   ·obtain ⟨j, hj⟩ : ∃ j, many - i = j + 1 := ⟨many - i - 1, by omega⟩
    rw [if_pos h5, if_pos h5, hj, alo, tail_drop]
   ·rw [if_neg h5, if_neg h5]
/-! ## The program's own order -/
/-- what the iterator yields -/
def alY : List (Int × Int) -> Int -> List (Int × Int)
 | [], _ => []
 | x :: p, af => if 0 < x.1 then alY p x.1 else (af, x.2 - 1) :: alY p af
/-- the codes behind `k` -/
def sel (b : List Int) (k : Int) : List (Int × Int) -> List Int
 | [] => []
 | y :: l => if y.1 = k then b.getD y.2.toNat 0 :: sel b k l else sel b k l
theorem sel_snoc (b : List Int) (k : Int) (y : Int × Int) : ∀ l : List (Int × Int), sel b k (l ++ [y]) = sel b k l ++ (if y.1 = k then [b.getD y.2.toNat 0] else [])
 | [] => by simp only [List.nil_append, sel]
 | z :: l => by
  rw [List.cons_append, sel, sel, sel_snoc b k y l]
  split <;> rfl
theorem sel_alY (b : List Int) : ∀ {a' b' : List Int} {m : List Mv} {c : Int}, Al a' b' m c -> ∀ (i k : Nat), b' = b.drop k -> ∀ q : Nat, sel b q (alY (prs m i k) i) = if i <= q then alo m (b.drop k) (q - i) else [] := by
 intro a' b' m c h
 induction h with
 | nil => intro i k _ q; simp [prs, alY, sel, alo]
 | both h ih =>
  intro i k hb q
  obtain ⟨h1, -, h3⟩ := drop_uncons hb
  unfold prs alY
  rw [if_pos (by simp only; omega)]
  have := ih (i + 1) (k + 1) h3 q
  rw [show (((i + 1 : Nat) : Int)) = (i : Int) + 1 by omega] at this
  simp only
  rw [this]
  by_cases h4 : i + 1 <= q
  ·obtain ⟨j, hj⟩ : ∃ j, q - i = j + 1 := ⟨q - i - 1, by omega⟩
   rw [if_pos h4, if_pos (by omega), hj, alo, tail_drop]
   congr 1; omega
  ·rw [if_neg h4]
   by_cases h5 : i <= q
   ·rw [if_pos h5, show q - i = 0 by omega, alo]
   ·rw [if_neg h5]
 | left h ih =>
  intro i k hb q
  unfold prs alY
  rw [if_pos (by simp only; omega)]
  have := ih (i + 1) k hb q
  rw [show (((i + 1 : Nat) : Int)) = (i : Int) + 1 by omega] at this
  simp only
  rw [this]
  by_cases h4 : i + 1 <= q
  ·obtain ⟨j, hj⟩ : ∃ j, q - i = j + 1 := ⟨q - i - 1, by omega⟩
   rw [if_pos h4, if_pos (by omega), hj, alo]
   congr 1; omega
  ·rw [if_neg h4]
   by_cases h5 : i <= q
   ·rw [if_pos h5, show q - i = 0 by omega, alo]
   ·rw [if_neg h5]
 | right h ih =>
  intro i k hb q
  obtain ⟨h1, -, h3⟩ := drop_uncons hb
  unfold prs alY
  rw [if_neg (by simp only; omega), sel, ih i (k + 1) h3 q]
  simp only
  by_cases h4 : i = q
  ·rw [if_pos (by omega), if_pos (by omega), if_pos (by omega), show q - i = 0 by omega, alo, tail_drop, head_drop h1, show ((k : Int) + 1 - 1).toNat = k by omega]
  ·rw [if_neg (by omega)]
   by_cases h5 : i <= q
   ·obtain ⟨j, hj⟩ : ∃ j, q - i = j + 1 := ⟨q - i - 1, by omega⟩
    rw [if_pos h5, if_pos h5, hj, alo, tail_drop]
   ·rw [if_neg h5, if_neg h5]
/-- where the yields lie -/
theorem alY_bd {b : List Int} : ∀ {a' b' : List Int} {m : List Mv} {c : Int}, Al a' b' m c -> ∀ (i k : Nat), b' = b.drop k -> ∀ y ∈ alY (prs m i k) i, (i : Int) <= y.1 /\ y.1 <= i + a'.length /\ 0 <= y.2 /\ y.2 < b.length := by
 intro a' b' m c h
 induction h with
 | nil => intro i k _ y hy; simp [prs, alY] at hy
 | both h ih =>
  intro i k hb y hy
  obtain ⟨h1, -, h3⟩ := drop_uncons hb
  unfold prs alY at hy
  rw [if_pos (by simp only; omega)] at hy
  have := ih (i + 1) (k + 1) h3 y (by rw [show (((i + 1 : Nat) : Int)) = (i : Int) + 1 by omega]; exact hy)
  rw [List.length_cons]; omega
 | left h ih =>
  intro i k hb y hy
  unfold prs alY at hy
  rw [if_pos (by simp only; omega)] at hy
  have := ih (i + 1) k hb y (by rw [show (((i + 1 : Nat) : Int)) = (i : Int) + 1 by omega]; exact hy)
  rw [List.length_cons]; omega
 | right h ih =>
  intro i k hb y hy
  obtain ⟨h1, -, h3⟩ := drop_uncons hb
  unfold prs alY at hy
  rw [if_neg (by simp only; omega), List.mem_cons] at hy
  rcases hy with rfl | hy
  ·simp only; omega
  ·exact ih i (k + 1) h3 y hy
/-- what the loop over the pairs lays on the readings' own loci -/
def ov (b : List Int) : List (Int × Int) -> (Nat -> Int) -> (Nat -> Int)
 | [], g => g
 | x :: p, g => ov b p (if 0 < x.1 /\ 0 < x.2 then fun q => if q = (x.1 - 1).toNat then b.getD (x.2 - 1).toNat 0 else g q else g)
theorem ov_prs (b : List Int) : ∀ {a' b' : List Int} {m : List Mv} {c : Int}, Al a' b' m c -> ∀ (i k : Nat) (g : Nat -> Int), b' = b.drop k -> (∀ q, i <= q -> g q = 0) -> ∀ q, ov b (prs m i k) g q = if q < i then g q else bsc m (b.drop k) (q - i) := by
 intro a' b' m c h
 induction h with
 | nil => intro i k g _ hg q; simp only [prs, ov, bsc]; split; rfl; exact hg q (by omega)
 | both h ih =>
  intro i k g hb hg q
  obtain ⟨h1, -, h3⟩ := drop_uncons hb
  unfold prs ov
  rw [if_pos ⟨by simp only; omega, by simp only; omega⟩, ih (i + 1) (k + 1) _ h3 (fun q hq => by rw [if_neg (by simp only; omega)]; exact hg q (by omega)) q]
  simp only [show ((i : Int) + 1 - 1).toNat = i by omega, show ((k : Int) + 1 - 1).toNat = k by omega]
  by_cases h4 : q < i
  ·rw [if_pos (by omega), if_neg (by omega), if_pos h4]
  ·rw [if_neg h4]
   by_cases h5 : q = i
   ·rw [if_pos (by omega), if_pos h5, h5, Nat.sub_self, bsc, head_drop h1]
   ·obtain ⟨j, hj⟩ : ∃ j, q - i = j + 1 := ⟨q - i - 1, by omega⟩
    rw [if_neg (by omega), hj, bsc, tail_drop]
    congr 1; omega
 | left h ih =>
  intro i k g hb hg q
  unfold prs ov
  rw [if_neg (by simp only; omega), ih (i + 1) k g hb (fun q hq => hg q (by omega)) q]
  by_cases h4 : q < i
  ·rw [if_pos (by omega), if_pos h4]
  ·rw [if_neg h4]
   by_cases h5 : q = i
   ·rw [if_pos (by omega), h5, Nat.sub_self, bsc]; exact hg i (Nat.le_refl _)
   ·obtain ⟨j, hj⟩ : ∃ j, q - i = j + 1 := ⟨q - i - 1, by omega⟩
    rw [if_neg (by omega), hj, bsc]
    congr 1; omega
 | right h ih =>
  intro i k g hb hg q
  obtain ⟨h1, -, h3⟩ := drop_uncons hb
  unfold prs ov
  rw [if_neg (by simp only; omega), ih i (k + 1) g h3 hg q, bsc, tail_drop]
/-- where the pairs lie -/
theorem prs_bd {b : List Int} : ∀ {a' b' : List Int} {m : List Mv} {c : Int}, Al a' b' m c -> ∀ (i k : Nat), b' = b.drop k -> ∀ x ∈ prs m i k, (0 < x.1 /\ x.1 <= i + a'.length ∨ x.1 = 0) /\ (0 < x.2 /\ x.2 <= b.length ∨ x.2 = 0) /\ (x.1 = 0 -> 0 < x.2) := by
 intro a' b' m c h
 induction h with
 | nil => intro i k _ x hx; simp [prs] at hx
 | both h ih =>
  intro i k hb x hx
  obtain ⟨h1, -, h3⟩ := drop_uncons hb
  rw [prs, List.mem_cons] at hx
  rcases hx with rfl | hx
  ·simp only [List.length_cons]; omega
  ·have := ih (i + 1) (k + 1) h3 x hx
   rw [List.length_cons]; omega
 | left h ih =>
  intro i k hb x hx
  rw [prs, List.mem_cons] at hx
  rcases hx with rfl | hx
  ·refine ⟨.inl ⟨?_, ?_⟩, .inr rfl, fun h => ?_⟩ <;> simp only [List.length_cons] at * <;> omega
  ·have := ih (i + 1) k hb x hx
   rw [List.length_cons]; omega
 | right h ih =>
  intro i k hb x hx
  obtain ⟨h1, -, h3⟩ := drop_uncons hb
  rw [prs, List.mem_cons] at hx
  rcases hx with rfl | hx
  ·exact ⟨.inr rfl, .inl ⟨by simp only; omega, by simp only; omega⟩, fun _ => by simp only; omega⟩
  ·exact ih i (k + 1) h3 x hx
/-! ## Rows -/
def padL (l : List Int) (n : Nat) : List Int := l ++ List.replicate (n - l.length) 0
theorem padL_len {l : List Int} {n : Nat} (h : l.length <= n) : (padL l n).length = n := by unfold padL; rw [List.length_append, List.length_replicate]; omega
/-- where the loci behind `k` readings begin -/
def atk (wd : Nat -> Nat) : Nat -> Nat
 | 0 => 0
 | k + 1 => atk wd k + wd k + 1
/-- the row up to `k` readings -/
def rowP (wd : Nat -> Nat) (sg : Nat -> List Int) (tp : Nat -> Int) : Nat -> List Int
 | 0 => []
 | k + 1 => rowP wd sg tp k ++ (padL (sg k) (wd k) ++ [tp k])
/-- a row -/
def rowL (wd : Nat -> Nat) (sg : Nat -> List Int) (tp : Nat -> Int) (n : Nat) : List Int := rowP wd sg tp n ++ padL (sg n) (wd n)
theorem rowP_len {wd : Nat -> Nat} {sg : Nat -> List Int} {tp : Nat -> Int} : ∀ {n : Nat}, (∀ k, k < n -> (sg k).length <= wd k) -> (rowP wd sg tp n).length = atk wd n
 | 0, _ => rfl
 | n + 1, h => by
  rw [rowP, List.length_append, List.length_append, rowP_len fun k hk => h k (by omega), padL_len (h n (by omega)), atk]
  simp only [List.length_cons, List.length_nil]; omega
theorem rowL_len {wd : Nat -> Nat} {sg : Nat -> List Int} {tp : Nat -> Int} {n : Nat} (h : ∀ k, k <= n -> (sg k).length <= wd k) : (rowL wd sg tp n).length = atk wd n + wd n := by
 rw [rowL, List.length_append, rowP_len fun k hk => h k (by omega), padL_len (h n (Nat.le_refl _))]
theorem atk_mono {wd : Nat -> Nat} : ∀ {i j : Nat}, i < j -> atk wd i + wd i < atk wd j
 | i, 0, h => by omega
 | i, j + 1, h => by
  by_cases e : i = j
  ·subst e; rw [atk]; omega
  ·have := atk_mono (wd := wd) (i := i) (j := j) (by omega); rw [atk]; omega
theorem atk_lt {wd : Nat -> Nat} {i j n : Nat} (h : i <= n) (hj : j < wd i ∨ (j = wd i /\ i < n)) : atk wd i + j < atk wd n + wd n := by
 by_cases e : i = n
 ·subst e; omega
 ·have := atk_mono (wd := wd) (i := i) (j := n) (by omega); omega
/-- a place is one place -/
theorem atk_inj {wd : Nat -> Nat} {i j i' j' : Nat} (hj : j <= wd i) (hj' : j' <= wd i') (h : atk wd i + j = atk wd i' + j') : i = i' /\ j = j' := by
 by_cases e : i = i'
 ·subst e; omega
 ·by_cases g : i < i'
  ·have := atk_mono (wd := wd) g; omega
  ·have := atk_mono (wd := wd) (i := i') (j := i) (by omega); omega
theorem range_add' (n k : Nat) : List.range (n + k) = List.range n ++ (List.range k).map fun j => n + j := List.range_add ..
theorem pad_map {l : List Int} {w : Nat} {f : Nat -> Int} (hl : l.length <= w) (h : ∀ j, j < w -> f j = l.getD j 0) : (List.range w).map f = padL l w := by
 apply List.ext_getElem?
 intro j
 unfold padL
 by_cases hj : j < w
 ·rw [List.getElem?_map, List.getElem?_range hj, Option.map_some, h j hj, List.getElem?_append]
  split
  ·rename_i h2; rw [List.getD_eq_getElem?_getD, List.getElem?_eq_getElem h2]; rfl
  ·rename_i h2; rw [List.getElem?_replicate, if_pos (by omega), List.getD_eq_getElem?_getD, List.getElem?_eq_none (by omega)]; rfl
 ·rw [List.getElem?_eq_none (by simp; omega), List.getElem?_eq_none (by simp; omega)]
/-- a table of places is a row -/
theorem rowP_of {wd : Nat -> Nat} {sg : Nat -> List Int} {tp : Nat -> Int} {f : Nat -> Int} : ∀ {n : Nat}, (∀ k, k < n -> (sg k).length <= wd k) -> (∀ k j, k < n -> j < wd k -> f (atk wd k + j) = (sg k).getD j 0) -> (∀ k, k < n -> f (atk wd k + wd k) = tp k) -> (List.range (atk wd n)).map f = rowP wd sg tp n
 | 0, _, _, _ => rfl
 | n + 1, h1, h2, h3 => by
  rw [atk, Nat.add_assoc, range_add', List.map_append, rowP_of (fun k hk => h1 k (by omega)) (fun k j hk => h2 k j (by omega)) (fun k hk => h3 k (by omega)), rowP, range_add', List.map_append, List.map_append]
  congr 2
  ·rw [List.map_map]; exact pad_map (h1 n (by omega)) fun j hj => h2 n j (by omega) hj
  ·simp only [List.range_one, List.map_cons, List.map_nil, Nat.add_zero]; rw [h3 n (by omega)]
theorem rowL_of {wd : Nat -> Nat} {sg : Nat -> List Int} {tp : Nat -> Int} {f : Nat -> Int} {n : Nat} (h1 : ∀ k, k <= n -> (sg k).length <= wd k) (h2 : ∀ k j, k <= n -> j < wd k -> f (atk wd k + j) = (sg k).getD j 0) (h3 : ∀ k, k < n -> f (atk wd k + wd k) = tp k) :
  (List.range (atk wd n + wd n)).map f = rowL wd sg tp n := by
 rw [range_add', List.map_append, rowP_of (fun k hk => h1 k (by omega)) (fun k j hk => h2 k j (by omega)) h3, rowL]
 congr 1
 rw [List.map_map]; exact pad_map (h1 n (Nat.le_refl _)) fun j hj => h2 n j (Nat.le_refl _) hj
end Go.Kin.Cl

set_option maxRecDepth 100000
set_option maxHeartbeats 400000000
namespace Go.Proofs
open Go.RowKit Go.Kin Go.Kin.Cl
namespace R41
@[reducible] def pQ (p : Int × Int) : List Value := [.int .i64 p.1, .int .i64 p.2]
theorem drop_getA {α : Type} {l : List α} {i : Nat} {x : α} (h : l[i]? = some x) : l.drop i = x :: l.drop (i + 1) := by
 obtain ⟨h1, h2⟩ := List.getElem?_eq_some_iff.1 h
 rw [List.drop_eq_getElem_cons h1, h2]
/-- pairs of an alignment: where they may lie -/
def PsOK (n : Nat) (ps : List (Int × Int)) : Prop := ∀ x ∈ ps, 0 <= x.1 /\ x.1 <= 100000 /\ 0 <= x.2 /\ x.2 <= n /\ (x.1 = 0 -> 0 < x.2)
/-! ## The iterator -/
def yE (y : Int × Int) : List Value := [.int .i64 y.1, .int .i64 y.2]
theorem alone_calls (v : Value) (w : World) : Calls Tryz.prog 18 ⟨[v]⟩ w fun e w' => ∃ b : Nat, e = .returned (.func (.func 40) ⟨[]⟩ ⟨[.pointer (some ⟨b, 0, none⟩)]⟩) /\ Below w.heap.size w w' /\ w.heap.size <= b /\ w'.heap[b]? = some (.cells ⟨cellsL v⟩ 62 (0, 0)) := by
 refine fEn Tryz.func18 rfl Tryz.ntmps18 rfl rfl (sWn w) ?_
 repeat (first|refine lVa rfl rfl (by first|exact pEv rfl|fail) ?_|refine lNi ?_|refine cRg ?_|refine cSq ?_|refine xTh ?_|refine r_box rfl rfl rfl rfl (fun _ => ?_)|refine c_ret ?_|fail)
 rename_i b
 exact x_ret rfl rfl (by repeat constructor) rfl (fun W hW => ⟨b, rfl, hW.below, Nat.le_of_not_lt (hW.own (b, _) (by repeat constructor)).1, (hW.own (b, _) (by repeat constructor)).2⟩)
theorem drop_headY {α : Type} {xs r : List α} {j : Nat} {x : α} (h : xs.drop j = x :: r) : ∃ hj : j < xs.length, xs[j] = x /\ xs.drop (j + 1) = r := by
 have hj : j < xs.length := by
  rcases Nat.lt_or_ge j xs.length with h' | h'
  ·exact h'
  ·rw [List.drop_eq_nil_of_le h'] at h; cases h
 rw [List.drop_eq_getElem_cons hj] at h
 simp only [List.cons.injEq] at h
 exact ⟨hj, h.1, h.2⟩
structure YS where
 i : Nat
 j : Nat
 af : Int
theorem alone_it (R : Nat -> Prop) (ps : List (Int × Int)) (A : Option Addr) (cap n b1 : Nat) (W1 : World) (hR1 : R b1) (hR : ∀ k, R k -> k < W1.heap.size) (h1 : W1.heap[b1]? = some (.cells ⟨[.slice A ps.length cap]⟩ 62 (0, 0))) (hA : Ar W1 R A 2 (ps.map pQ)) (hp : PsOK n ps) (hn : n <= 100000) (hl : ps.length <= 100000) :
  It Tryz.prog 40 [.pointer (some ⟨b1, 0, none⟩)] yE (alY ps 0) R W1 := by
 intro lp J Jx cJ cJx hy h0
 obtain ⟨xs, hxs⟩ : ∃ xs, alY ps 0 = xs := ⟨_, rfl⟩
 rw [hxs] at hy ⊢
 have hE1 : Ext W1 R b1 0 [.slice A ps.length cap] := ⟨hR1, fun i v hi => by unfold World.cell?; rw [h1, Nat.zero_add]; simpa using hi⟩
 have hs : SatW W1 R (J 0) [] W1 := ⟨Same.refl _ _, hR, List.nodup_nil, fun p hp => (by cases hp), cJ 0, cJ 0 _ _ _ _ h0 (Same.refl _ _) fun b hb => (by cases hb)⟩
 refine fEn Tryz.func40 rfl Tryz.ntmps40 rfl rfl hs ?_
 repeat (first|refine lVa rfl rfl (by first|exact pEv rfl|exact vL0 rfl (by assumption) rfl (by rfl)|fail) ?_|refine lNi ?_|refine cRg ?_|refine cSq ?_|refine xTh ?_|refine cBl ?_|fail)
 refine c_loopD (ι := YS) (fun q => q.i <= ps.length /\ q.j <= xs.length /\ 0 <= q.af /\ q.af <= 100000 /\ (Unit -> xs.drop q.j = alY (ps.drop q.i) q.af)) (fun _ => []) (fun q => J q.j)
  (fun q => [(0, .func (.yield lp) ⟨[]⟩ ⟨[]⟩), (3, .int .i64 q.af), (6, .slice A ps.length cap), (7, .int .i64 ps.length), (8, .int .i64 q.i)]) (fun _ => []) (fun q => ps.length - q.i) ⟨0, 0, 0⟩
  ⟨by simp only; omega, by simp only; omega, by simp only; omega, by simp only; omega, fun _ => by simp only [List.drop_zero]; exact hxs.symm⟩ rfl rfl (by repeat (first|exact .nil|refine .cons rfl (by first|rfl|(congr 1; done)|exact congrArg _ (by omega)|(simp; done)) ?_)) (by repeat (first|exact .nil|refine .keep (by first|rfl|assumption) ?_|refine .drop ?_|exact MSub.refl _)) ?_
 rintro ⟨i, j, af⟩ ⟨q1, q2, q3, q4, q5⟩
 simp only at q1 q2 q3 q4 q5 ⊢
 by_cases hlt : i < ps.length
 ·obtain ⟨x, hx⟩ : ∃ x, ps[i]? = some x := ⟨_, List.getElem?_eq_getElem hlt⟩
  obtain ⟨b, o, rfl, he⟩ := hA.get hx
  obtain ⟨p1, p2, p3, p4, p5⟩ := hp x (List.mem_of_getElem? hx)
  have hd : ps.drop i = x :: ps.drop (i + 1) := drop_getA hx
  by_cases hx1 : 0 < x.1
  ·have q6 : Unit -> xs.drop j = alY (ps.drop (i + 1)) x.1 := fun _ => by rw [q5 (), hd, alY, if_pos hx1]
   clear q5 hd
   repeat (first|refine lVa rfl rfl (by first|exact v_add rfl rfl (by omega) (by omega)|exact pEv rfl|exact vLd rfl (by repeat constructor) rfl (by rfl)|exact vL0 rfl (by assumption) rfl (by rfl)|exact v_index rfl rfl rfl rfl (by omega) (by omega) (by with_reducible first|exact idx4 _ _ _|fail)|exact v_indexA rfl rfl rfl rfl (by omega) (by omega) (by with_reducible first|exact idx5 _|fail)|fail) ?_|refine lNi ?_|refine cRg ?_|refine cSq ?_|refine xTh ?_|refine r_alloc rfl rfl rfl (by first|exact aggL|fail) (fun _ => ?_)|refine rSt rfl rfl rfl rfl rfl rfl rfl (by repeat constructor) (by rfl) ?_|refine c_dec_t rfl (by first|omega|fail) ?_|refine cBl ?_|refine cSk ?_|refine x_block ?_|fail)
   exact x_backD ⟨i + 1, j, x.1⟩ ⟨hlt, q2, p1, p2, q6⟩ (by simp only; omega) rfl rfl (by repeat (first|exact .nil|refine .cons rfl (by first|rfl|(congr 1; done)|exact congrArg _ (by omega)|(simp; done)) ?_)) (by repeat (first|exact .nil|refine .keep (by first|rfl|assumption) ?_|refine .drop ?_|exact MSub.refl _))
  ·have q6 := q5 ()
   rw [hd, alY, if_neg hx1] at q6
   obtain ⟨hj1, e1, q8⟩ := drop_headY q6
   have q8 := fun (_ : Unit) => q8
   clear q5 hd q6
   repeat (first|refine lVa rfl rfl (by first|exact v_sub rfl rfl (by omega) (by omega)|exact pEv rfl|exact vLd rfl (by repeat constructor) rfl (by rfl)|exact vL0 rfl (by assumption) rfl (by rfl)|exact v_index rfl rfl rfl rfl (by omega) (by omega) (by with_reducible first|exact idx4 _ _ _|fail)|exact v_indexA rfl rfl rfl rfl (by omega) (by omega) (by with_reducible first|exact idx5 _|fail)|fail) ?_|refine lNi ?_|refine cRg ?_|refine cSq ?_|refine xTh ?_|refine r_alloc rfl rfl rfl (by first|exact aggL|fail) (fun _ => ?_)|refine rSt rfl rfl rfl rfl rfl rfl rfl (by repeat constructor) (by rfl) ?_|refine c_dec_t rfl (by first|omega|fail) ?_|refine c_dec_f rfl (by first|omega|fail) ?_|refine cBl ?_|refine cSk ?_|fail)
   refine l_yield rfl rfl rfl rfl rfl (cJ (j + 1)) (cJx j) (fun S A hj hS => by have := hy j hj1 S A hj hS; rw [e1] at this; exact this) ?_ (fun W0 => ?_)
   ·repeat (first|refine lVa rfl rfl (by first|exact v_add rfl rfl (by omega) (by omega)|exact pEv rfl|fail) ?_|refine lNi ?_|refine cRg ?_|refine xTh ?_|refine c_false rfl ?_|refine cSk ?_|refine x_block ?_|fail)
    exact x_backD ⟨i + 1, j + 1, af⟩ ⟨hlt, hj1, q3, q4, q8⟩ (by simp only; omega) rfl rfl (by repeat (first|exact .nil|refine .cons rfl (by first|rfl|(congr 1; done)|exact congrArg _ (by omega)|(simp; done)) ?_)) (by repeat (first|exact .nil|refine .keep (by first|rfl|assumption) ?_|refine .drop ?_|exact MSub.refl _))
   ·repeat (first|refine lVa rfl rfl (by first|exact pEv rfl|fail) ?_|refine lNi ?_|refine xTh ?_|refine c_true rfl ?_|refine c_ret ?_|refine xTr ?_|refine xBr ?_|fail)
    exact x_ret rfl rfl (by repeat constructor) rfl (fun W hW => ⟨⟨_, rfl⟩, .inr ⟨j, hj1, _, hW.word⟩⟩)
 ·have hil : i = ps.length := by omega
  have hjl : j = xs.length := by
   have := congrArg List.length (q5 ())
   rw [hil, List.drop_length, List.length_drop] at this
   simp only [alY, List.length_nil] at this
   omega
  clear q5
  repeat (first|refine lVa rfl rfl (by first|exact pEv rfl|fail) ?_|refine lNi ?_|refine cRg ?_|refine cSq ?_|refine xTh ?_|refine c_dec_f rfl (by first|omega|fail) ?_|refine c_exit ?_|refine xTe ?_|refine xBs ?_|fail)
  exact x_end rfl rfl (by repeat constructor) rfl (fun W hW => ⟨⟨_, rfl⟩, .inl ⟨_, by rw [<- hjl]; exact hW.word⟩⟩)
/-! ## The specification's own functions -/
end R41
end Go.Proofs
