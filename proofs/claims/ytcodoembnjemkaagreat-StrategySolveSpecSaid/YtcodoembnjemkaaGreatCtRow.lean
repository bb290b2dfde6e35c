/- Games on networks: the decisions of a strategy are collected. -/
import Derived.Test.YtcodoembnjemkaaGreatSgCmp
import Derived.Test.YtcodoembnjemkaaGreatSgCpt
import Derived.Shelf.SlSortCmp.NoneTotal
import Derived.Test.YtcodoembnjemkaaGreatStAcc
import Derived.Test.YtcodoembnjemkaaGreatGenCell
import Derived.Test.YtcodoembnjemkaaGreatTy
import Derived.Test.YtcodoembnjemkaaGreatEng26
set_option maxRecDepth 100000
set_option maxHeartbeats 400000000
set_option linter.unusedSectionVars false
set_option linter.unusedVariables false
set_option linter.unusedSimpArgs false
namespace Go.Proofs
open Go.RowKit Go.Kin Go.Kin.St Go.Kin.Ct Go.Kin.Sg Go.Shelf Go.Sort
namespace R24
/-! ## Positions that have been seen -/
def kvS (seen : List Pos) : List ((Int × (Nat -> Int)) × Value) := seen.map fun p => (((p.1 : Int), kn p.2), .bool true)
theorem kn_same {l m : List Int} (h : l.length = m.length) (hl : l.length <= 6) : sameTo (kn l) (kn m) 6 = true ↔ l = m := by
 rw [sameTo_iff]
 constructor
 ·intro h2
  refine List.ext_getElem? fun i => ?_
  by_cases hi : i < l.length
  ·rw [kn_at hi, kn_at (by omega), h2 i (by omega)]
  ·rw [List.getElem?_eq_none (by omega), List.getElem?_eq_none (by omega)]
 ·rintro rfl _ _; rfl
theorem seen_get {n : Nat} (hn : n <= 6) {p : Pos} (hp : p.2.length = n) : ∀ {seen : List Pos}, (∀ x ∈ seen, x.2.length = n) -> (p ∈ seen -> pkGet (kvS seen) p.1 (kn p.2) = some (.bool true)) /\ (p ∉ seen -> pkGet (kvS seen) p.1 (kn p.2) = none) := by
 intro seen hs
 have hx : ∀ x ∈ seen, (decide ((p.1 : Int) = (x.1 : Int)) && sameTo (kn p.2) (kn x.2) 6) = decide (x = p) := fun x hx => by
  by_cases h : x = p
  ·subst h; rw [decide_eq_true rfl, decide_eq_true rfl, (kn_same rfl (by omega)).2 rfl]; rfl
  ·rw [decide_eq_false h]
   cases h2 : decide ((p.1 : Int) = (x.1 : Int)) && sameTo (kn p.2) (kn x.2) 6 with
   | false => rfl
   | true =>
    simp only [Bool.and_eq_true, decide_eq_true_eq] at h2
    rw [kn_same (by rw [hp, hs x hx]) (by omega)] at h2
    exact absurd (Prod.ext (by omega) h2.2.symm) h
 unfold pkGet kvS
 rw [List.find?_map, Option.map_map]
 constructor
 ·intro hm
  cases hf : seen.find? ((fun x : (Int × (Nat -> Int)) × Value => decide ((p.1 : Int) = x.1.1) && sameTo (kn p.2) x.1.2 6) ∘ fun p => (((p.1 : Int), kn p.2), Value.bool true)) with
  | some y => rfl
  | none =>
   have := List.find?_eq_none.1 hf p hm
   exact absurd ((hx p hm).trans (decide_eq_true rfl)) this
 ·intro hm
  cases hf : seen.find? ((fun x : (Int × (Nat -> Int)) × Value => decide ((p.1 : Int) = x.1.1) && sameTo (kn p.2) x.1.2 6) ∘ fun p => (((p.1 : Int), kn p.2), Value.bool true)) with
  | none => rfl
  | some y =>
   have h1 := List.find?_some hf
   have h2 := List.mem_of_find?_eq_some hf
   simp only [Function.comp] at h1
   rw [hx y h2] at h1
   exact absurd (of_decide_eq_true h1 ▸ h2) hm
theorem kvS_snoc {seen : List Pos} {p : Pos} : kvS (seen ++ [p]) = kvS seen ++ [(((p.1 : Int), kn p.2), .bool true)] := by unfold kvS; rw [List.map_append]; rfl
theorem plE_zero {n : Nat} : plE (0, List.replicate n 0) = plC 0 (fun _ => 0) := by
 unfold plE
 simp only
 have h : ∀ q, kn (List.replicate n 0) q = 0 := fun q => by
  unfold kn
  rw [List.getD_eq_getElem?_getD, List.getElem?_replicate]
  split <;> rfl
 rw [show kn (List.replicate n 0) = fun _ => 0 from funext h]; rfl
theorem gSl_news {c : Cx} {mem : List (Nat × Obj)} {l : List Pos} {b cap : Nat} {r : List Value} (h : ∀ p ∈ gM plE 54 l b r, p ∈ mem) : ∃ A cx, gSl l b cap = .slice A l.length cx /\ NewsG c mem A l.length ((l.map plE).flatten) := by
 cases l with
 | nil => exact ⟨none, 0, rfl, .inl ⟨rfl, rfl⟩⟩
 | cons x l => exact ⟨_, cap, rfl, .inr ⟨b, 0, rfl, ⟨fun W hW j v hj => by
   rw [Nat.zero_add, hW.cellAt (h _ List.mem_cons_self), List.getElem?_append_left (List.getElem?_eq_some_iff.1 hj).1]; exact hj⟩⟩⟩
theorem plE_one : ∀ {l : List Pos}, allOne ((l.map plE).flatten) = true := fun {l} => one_of fun v hv => by
 obtain ⟨x, hx, hv⟩ := List.mem_flatten.1 hv
 obtain ⟨p, _, rfl⟩ := List.mem_map.1 hx
 have := allOne_mem (plC_one (k := p.1) (f := kn p.2)) v hv
 exact this
/-! ## What is collected -/
structure ColH (b : GB) (a f bgs : Nat) (ad : Pos -> List Dec) (nx : Pos -> List Pos) (F : Int -> List Int -> List Int) : Prop where
 step : ∀ bs bg p, Rch nx b.T (0, List.replicate b.n 0) p -> p.1 <= b.T -> StepC b a f bgs bs bg ad nx p
 pos : ∀ p, Rch nx b.T (0, List.replicate b.n 0) p -> PosN b p.2 /\ ∀ x ∈ p.2, 0 <= x /\ x <= b.T + 1
 nxk : ∀ p, Rch nx b.T (0, List.replicate b.n 0) p -> p.1 <= b.T -> (∀ y ∈ nx p, y.1 = p.1 + 1) /\ (nx p).length <= 64
 ads : ∀ p, Rch nx b.T (0, List.replicate b.n 0) p -> p.1 <= b.T -> (ad p).length <= 64 /\ ∀ d ∈ ad p, d.d = F d.k d.l /\ d.l.length = b.n
structure CS where
 es : Mp
 s : SL
 q : List Pos
 seen : List Pos
 qp : QP
def CS.m (st : CS) (b : GB) (a bs bg bn : Nat) : List (Nat × Obj) :=
 (bn, pkO (kvS st.seen)) :: st.qp.m 54 ((st.q.map plE).flatten) :: (bg, bxG a) :: (b.m, st.es.o) :: (st.s.m bs ++ rowsM st.s.rows)
def CS.OK (b : GB) (ad : Pos -> List Dec) (nx : Pos -> List Pos) (st : CS) : Prop :=
 (∀ x ∈ st.es.es, EntV b x) /\ st.s.OK /\ (∀ r ∈ st.s.rows, r.OK) /\ st.s.rows.map DR.dec = st.seen.flatMap ad /\ BI nx b.T (0, List.replicate b.n 0) 64 ⟨st.q, st.seen⟩ /\ st.qp.OK 7 st.q.length ((st.q.map plE).flatten)
/-- what is handed back and left -/
structure CI where
 es : Mp
 rows : List DR
 b : Nat
 c : Nat
 r : List Value
def CI.OK (b : GB) (ad : Pos -> List Dec) (nx : Pos -> List Pos) (i : CI) : Prop :=
 (∀ x ∈ i.es.es, EntV b x) /\ gOK drE 3 i.rows i.c i.r /\ (∀ r ∈ i.rows, r.OK) /\ i.rows.Pairwise (fun x y => cmpK x.k x.l y.k y.l < 0) /\ (∀ d, d ∈ i.rows.map DR.dec ↔ ∃ p, Rch nx b.T (0, List.replicate b.n 0) p /\ p.1 <= b.T /\ d ∈ ad p)
def CI.m (b : GB) (i : CI) : List (Nat × Obj) := (b.m, i.es.o) :: (gM drE 39 i.rows i.b i.r ++ rowsM i.rows)
theorem compact0_calls (w : World) : Calls Tryz.prog 70 ⟨[.slice none 0 0, .func (.func 71) ⟨[]⟩ ⟨[]⟩]⟩ w fun e w' => e = .returned (.slice none 0 0) /\ Below w.heap.size w w' := by
 refine fEn Tryz.func70 rfl Tryz.ntmps70 rfl rfl (sWn w) ?_
 repeat (first|refine lVa rfl rfl (by first|exact pEv rfl|fail) ?_|refine lNi ?_|refine cRg ?_|refine cSq ?_|refine xTh ?_|refine c_true rfl ?_|refine c_ret ?_|refine xTr ?_|fail)
 exact x_ret rfl rfl (by repeat constructor) rfl (fun W hW => ⟨rfl, hW.below⟩)
theorem rowsM_sub {l m : List DR} (h : l.Sublist m) : (rowsM l).Sublist (rowsM m) := by
 induction h with
 | slnil => exact List.Sublist.refl _
 | cons a _ ih => unfold rowsM at *; rw [List.flatMap_cons]; exact ih.trans (List.sublist_append_right _ _)
 | cons_cons a _ ih => unfold rowsM at *; rw [List.flatMap_cons, List.flatMap_cons]; exact (List.Sublist.refl _).append ih
theorem rowsM_kn {l : List DR} {r : DR} (h : r ∈ l) : (r.bk, Obj.cells ⟨flI r.l ++ r.rk⟩ 3 (0, 0)) ∈ rowsM l := List.mem_flatMap.2 ⟨r, h, List.mem_append_left _ List.mem_cons_self⟩
theorem flI_get {l : List Int} {k : Nat} {x : Int} (h : l[k]? = some x) (r : List Value) : (flI l ++ r)[k]? = some (.int .i64 x) := by
 have h1 : flI l = l.map fun x => Value.int .i64 x := by
  unfold flI
  clear h
  induction l with
  | nil => rfl
  | cons x l ih => rw [List.map_cons, List.flatten_cons, ih]; rfl
 have h2 : (flI l)[k]? = some (.int .i64 x) := by rw [h1, List.getElem?_map, h]; rfl
 rw [List.getElem?_append_left (List.getElem?_eq_some_iff.1 h2).1, h2]
theorem flatMap_len {α β : Type} {f : α -> List β} {K : Nat} : ∀ {l : List α}, (∀ x ∈ l, (f x).length <= K) -> (l.flatMap f).length <= K * l.length
 | [], _ => by simp
 | x :: l, h => by
  rw [List.flatMap_cons, List.length_append, List.length_cons, Nat.mul_add, Nat.mul_one]
  have := flatMap_len (f := f) (K := K) (l := l) fun y hy => h y (List.mem_cons_of_mem _ hy)
  have := h x List.mem_cons_self
  omega
theorem collect_calls (b : GB) (a f bgs : Nat) [Ent Tryz.prog f] (ad : Pos -> List Dec) (nx : Pos -> List Pos) (F : Int -> List Int -> List Int) (hb : GOK b) (hH : ColH b a f bgs ad nx F) (hfew : (b.T + 2) ^ b.n <= 3000) (es : Mp) (w : World)
  (hes : ∀ x ∈ es.es, EntV b x) (hm : w.heap[b.m]? = some es.o) (hg : b.In a w (allBut w [b.m])) (hbgs : Ext w (allBut w [b.m]) bgs 0 [.pointer (some ⟨a, 0, none⟩)]) :
  Calls Tryz.prog 36 ⟨[.pointer (some ⟨a, 0, none⟩), .func (.func f) ⟨[]⟩ ⟨[.pointer (some ⟨bgs, 0, none⟩)]⟩]⟩ w
   (FrQ [(b.m, es.o)] (fun i : { i : CI // i.OK b ad nx } => gSl i.1.rows i.1.b i.1.c) (fun i => i.1.m b) w) := by
 have hT := hb.T
 have hn := hb.n
 have hsat : SatW w (allBut w [b.m]) noJ [(b.m, es.o)] w := frQ_start (pre := [(b.m, es.o)]) (by simp) (by simpa using hm)
 refine fEn Tryz.func36 rfl Tryz.ntmps36 rfl rfl hsat ?_
 repeat (first|refine lVa rfl rfl (by first|exact pEv rfl|exact v_build rfl rfl (by rfl)|fail) ?_|refine lNi ?_|refine cRg ?_|refine cSq ?_|refine xTh ?_|refine r_box rfl rfl rfl rfl (fun _ => ?_)|refine r_makeMap rfl rfl (fun _ => ?_)|refine r_alloc rfl rfl rfl (by first|exact aggL|fail) (fun _ => ?_)|refine r_buildSlice rfl rfl rfl rfl rfl rfl (by rfl) (fun _ => ?_)|refine cBl ?_|fail)
 rename_i bg bs bn bq
 obtain ⟨s0, hs0⟩ : ∃ s0 : Pos, s0 = (0, List.replicate b.n 0) := ⟨_, rfl⟩
 have hz : plE s0 = plC 0 (fun _ => 0) := by rw [hs0]; exact plE_zero
 refine c_perm (mem' := CS.m ⟨es, ⟨[], 0, 0, []⟩, [s0], [], ⟨bq, 0, 1, [], [], []⟩⟩ b a bs bg bn) ?_ ?_
 ·unfold CS.m QP.m
  simp only [List.map_cons, List.map_nil, List.flatten_cons, List.flatten_nil, hz]
  exact perm_by [[(bq, Obj.cells ⟨plC 0 (fun _ => 0)⟩ 54 (0, 0))], [(bn, Obj.map ⟨[]⟩ 0)], [(bs, Obj.cells ⟨[.slice none 0 0]⟩ 25 (0, 0))], [(bg, bxG a)], [(b.m, es.o)]] [0, 1, 2, 3, 4] [1, 0, 3, 4, 2] rfl rfl rfl
 have hI0 : CS.OK b ad nx ⟨es, ⟨[], 0, 0, []⟩, [s0], [], ⟨bq, 0, 1, [], [], []⟩⟩ := by
  refine ⟨hes, fun h => absurd rfl h, fun r hr => (by cases hr), rfl, ?_, ⟨rfl, ?_, rfl, Nat.le_refl _, ?_⟩⟩
  ·rw [hs0]; exact BI.init _ _ _ _
  ·simp only [List.map_cons, List.map_nil, List.flatten_cons, List.flatten_nil, List.append_nil, plE_len, List.length_cons, List.length_nil]
  ·simp only [maxLen]; omega
 have hcT : Ext w (allBut w [b.m]) a 3 [.int .i64 b.T] := hg.own.at cells_T
 refine c_loop (ι := CS) (fun st => st.OK b ad nx)
  (fun st => [(1, .func (.func f) ⟨[]⟩ ⟨[.pointer (some ⟨bgs, 0, none⟩)]⟩), (2, .pointer (some ⟨bg, 0, none⟩)), (4, .pointer (some ⟨bs, 0, none⟩)), (5, .map (some bn)), (6, .func (.func 67) ⟨[]⟩ ⟨[.pointer (some ⟨bs, 0, none⟩), .pointer (some ⟨bg, 0, none⟩)]⟩), (7, st.qp.v st.q.length)])
  (fun st => st.m b a bs bg bn) (fun st => bmu 64 b.T st.q) ⟨es, ⟨[], 0, 0, []⟩, [s0], [], ⟨bq, 0, 1, [], [], []⟩⟩
  hI0 (by repeat (first|exact .nil|refine .cons rfl (by first|rfl|(congr 1; done)|exact congrArg _ (by omega)|(simp; done)) ?_)) (MSub.refl _) ?_
 rintro ⟨es1, s1, q, seen, qp⟩ ⟨i1, i2, i3, i4, i5, i6⟩
 simp only at i1 i2 i3 i4 i5 i6 ⊢
 cases q with
 | nil =>
  simp only [List.length_nil]
  repeat (first|refine lVa rfl rfl (by first|exact pEv rfl|exact vLd rfl (by repeat constructor) rfl (by rfl)|fail) ?_|refine lNi ?_|refine cRg ?_|refine cSq ?_|refine xTh ?_|refine c_false rfl ?_|refine c_exit ?_|refine xTe ?_|refine xBs ?_|fail)
  have hall : ∀ p, Rch nx b.T (0, List.replicate b.n 0) p -> p.1 <= b.T -> p ∈ seen := fun p hp hk => i5.all hp hk
  have hdm : ∀ d, d ∈ s1.rows.map DR.dec ↔ ∃ p, Rch nx b.T (0, List.replicate b.n 0) p /\ p.1 <= b.T /\ d ∈ ad p := fun d => by
   rw [i4, List.mem_flatMap]
   constructor
   ·rintro ⟨p, h1, h2⟩; exact ⟨p, i5.met p (.inr h1), i5.le p h1, h2⟩
   ·rintro ⟨p, h1, h2, h3⟩; exact ⟨p, hall p h1 h2, h3⟩
  obtain ⟨rows, sb, sc, sr⟩ := s1
  cases rows with
  | nil =>
   refine r_call (v := .tuple #[]) rfl rfl rfl (fun W hW => (AnyF.slices_SortFunc_none laySort none 0 _ W).mono ?_) ?_
   ·rintro e w' ⟨rfl, rfl⟩
    exact ⟨rfl, Below.refl _ _⟩
   repeat (first|refine lVa rfl rfl (by first|exact vLd rfl (by repeat constructor) rfl (by rfl)|fail) ?_|refine lNi ?_|refine cRg ?_|refine cSq ?_|refine xTh ?_|fail)
   refine r_call (v := .slice none 0 0) rfl rfl rfl (fun W hW => compact0_calls W) ?_
   refine l_part [(bn, pkO (kvS seen)), qp.m 54 (([].map plE).flatten), (bg, bxG a)] (mem' := [(b.m, es1.o), (bs, .cells ⟨[.slice none 0 0]⟩ 25 (0, 0))]) (List.Perm.refl _) ?_
   repeat (first|refine lNi ?_|refine xTh ?_|refine rSt rfl rfl rfl rfl rfl rfl rfl (by repeat constructor) (by rfl) ?_|refine c_ret ?_|fail)
   refine x_ret rfl rfl (by repeat constructor) rfl (fun W hW => ⟨⟨⟨es1, [], 0, 0, []⟩, i1, fun h => absurd rfl h, (fun r hr => (by cases hr)), List.Pairwise.nil, hdm⟩, rfl, hW.mono (List.sublist_append_left [(b.m, es1.o)] [_])⟩)
  | cons r0 rs =>
   obtain ⟨rows, hrows⟩ : ∃ rows, r0 :: rs = rows := ⟨_, rfl⟩
   have hne : rows ≠ [] := by rw [<- hrows]; simp
   have hgr : Grow 3 rows.length ((rows.map drE).flatten) sc sr := hrows ▸ i2 (by simp)
   have hsv : (SL.mk (r0 :: rs) sb sc sr).v = .slice (some ⟨sb, 0, none⟩) rows.length sc := by rw [<- hrows]; rfl
   rw [hrows] at i3 i4 hdm
   have hrl : rows.length <= 10000000 := by
    have h1 : rows.length = (seen.flatMap ad).length := by rw [<- i4, List.length_map]
    have h2 := flatMap_len (f := ad) (K := 64) (l := seen) fun x hx => (hH.ads x (i5.met x (.inr hx)) (i5.le x hx)).1
    have h3 := pos_le (n := b.n) (T := b.T) (l := seen) i5.nodup fun x hx => by
     obtain ⟨h4, h5⟩ := hH.pos x (i5.met x (.inr hx))
     exact ⟨i5.le x hx, h4.1, h5⟩
    have h4 : (b.T + 1) * (b.T + 2) ^ b.n <= 16 * 3000 := Nat.mul_le_mul (by omega) hfew
    omega
   have hrn : ∀ r ∈ rows, r.l.length = b.n := fun r hr => by
    obtain ⟨p, h1, h2, h3⟩ := (hdm r.dec).1 (List.mem_map.2 ⟨r, hr, rfl⟩)
    exact ((hH.ads p h1 h2).2 _ h3).2
   refine l_perm (mem' := (sb, .cells ⟨(rows.map drE).flatten ++ sr⟩ 39 (0, 0)) :: (bs, .cells ⟨[.slice (some ⟨sb, 0, none⟩) rows.length sc]⟩ 25 (0, 0)) :: (b.m, es1.o) :: (bn, pkO (kvS seen)) :: qp.m 54 (([].map plE).flatten) :: (bg, bxG a) :: rowsM rows) ?_ ?_
   ·rw [<- hrows]
    exact perm_by [[(bn, pkO (kvS seen))], [qp.m 54 (([].map plE).flatten)], [(bg, bxG a)], [(b.m, es1.o)], [(bs, .cells ⟨[.slice (some ⟨sb, 0, none⟩) (r0 :: rs).length sc]⟩ 25 (0, 0))], [(sb, .cells ⟨((r0 :: rs).map drE).flatten ++ sr⟩ 39 (0, 0))], rowsM (r0 :: rs)] [0, 1, 2, 3, 4, 5, 6] [5, 4, 3, 0, 1, 2, 6] rfl (by simp [CS.m, SL.m, SL.v, gM, gSl]) (by simp)
   rw [hsv]
   refine r_callF (pre := [(sb, .cells ⟨(rows.map drE).flatten ++ sr⟩ 39 (0, 0))]) rfl rfl rfl (List.Perm.refl _) (fun W hW h1 h2 => sort_calls rows sb sc b.n sr W hrn (by omega) hne hrl (fun r hr => ?_) (h2 _ List.mem_cons_self)) ?_
   ·have hin : (r.bk, Obj.cells ⟨flI r.l ++ r.rk⟩ 3 (0, 0)) ∈ (bs, Obj.cells ⟨[.slice (some ⟨sb, 0, none⟩) rows.length sc]⟩ 25 (0, 0)) :: (b.m, es1.o) :: (bn, pkO (kvS seen)) :: qp.m 54 (([].map plE).flatten) :: (bg, bxG a) :: rowsM rows := by
     simp only [List.mem_cons]
     exact .inr (.inr (.inr (.inr (.inr (rowsM_kn hr)))))
    refine ⟨fun e => ?_, fun k x hx => ?_⟩
    ·have := hW.nodup
     rw [List.map_cons, List.nodup_cons] at this
     exact this.1 (List.mem_map.2 ⟨_, hin, e⟩)
    ·rw [Nat.zero_add, hW.cellAt (List.mem_cons_of_mem _ hin)]
     exact flI_get hx _
   rintro ⟨rs', hp', hs'⟩
   simp only [List.cons_append, List.nil_append]
   repeat (first|refine lVa rfl rfl (by first|exact vLd rfl (by repeat constructor) rfl (by rfl)|fail) ?_|refine lNi ?_|refine cRg ?_|refine cSq ?_|refine xTh ?_|fail)
   have hlen' : rs'.length = rows.length := hp'.length_eq
   have hgr' : Grow 3 rs'.length ((rs'.map drE).flatten) sc sr := ⟨dr_rows _, by have := hgr.all; rw [List.length_append, dr_rows] at this ⊢; rw [hlen']; exact this, by rw [hlen']; exact hgr.le, hgr.max⟩
   rw [<- hlen']
   refine r_callF (pre := [(sb, .cells ⟨(rs'.map drE).flatten ++ sr⟩ 39 (0, 0))]) rfl rfl rfl (List.Perm.refl _) (fun W hW h1 h2 => compact_calls rs' sb sc b.n sr W (fun r hr => hrn r (hp'.subset hr)) (by omega) (by rw [hlen']; exact hrl) hgr' (fun r hr => ?_) (h2 _ List.mem_cons_self)) ?_
   ·have hin : (r.bk, Obj.cells ⟨flI r.l ++ r.rk⟩ 3 (0, 0)) ∈ (bs, Obj.cells ⟨[.slice (some ⟨sb, 0, none⟩) rs'.length sc]⟩ 25 (0, 0)) :: (b.m, es1.o) :: (bn, pkO (kvS seen)) :: qp.m 54 (([].map plE).flatten) :: (bg, bxG a) :: rowsM rows := by
     simp only [List.mem_cons]
     exact .inr (.inr (.inr (.inr (.inr (rowsM_kn (hp'.subset hr))))))
    refine ⟨fun e => ?_, hW.lt (List.mem_cons_of_mem _ hin), fun k x hx => ?_⟩
    ·have := hW.nodup
     rw [List.map_cons, List.nodup_cons] at this
     exact this.1 (List.mem_map.2 ⟨_, hin, e⟩)
    ·rw [Nat.zero_add, hW.cellAt (List.mem_cons_of_mem _ hin)]
     exact flI_get hx _
   rintro ⟨rest', hg'⟩
   simp only [List.cons_append, List.nil_append]
   have hrn' : ∀ r ∈ rs', r.l.length = b.n := fun r hr => hrn r (hp'.subset hr)
   have hso := kp_sorted (k := drK) (l := DR.l) hrn' hs' (Nat.le_refl _)
   have hcv := fun i hi x hx => kp_cover (k := drK) (l := DR.l) (m := rs'.length) hrn' i hi x hx
   have hsub := kp_subl (k := drK) (l := DR.l) (rows := rs') (m := rs'.length)
   obtain ⟨K, hK⟩ : ∃ K, kp drK DR.l rs' rs'.length = K := ⟨_, rfl⟩
   rw [hK] at hso hcv hsub hg' ⊢
   have hKne : K ≠ [] := fun e => by
    have h1 : 0 < rs'.length := by rw [hlen']; exact List.length_pos_iff.2 hne
    obtain ⟨z, hz, _⟩ := hcv 0 h1 _ (List.getElem?_eq_getElem h1)
    rw [e] at hz; cases hz
   have hfun : ∀ r ∈ rows, r.dec.d = F r.dec.k r.dec.l := fun r hr => by
    obtain ⟨p, h1, h2, h3⟩ := (hdm r.dec).1 (List.mem_map.2 ⟨r, hr, rfl⟩)
    exact ((hH.ads p h1 h2).2 _ h3).1
   have hdm' : ∀ d, d ∈ K.map DR.dec ↔ ∃ p, Rch nx b.T (0, List.replicate b.n 0) p /\ p.1 <= b.T /\ d ∈ ad p := fun d => by
    rw [<- hdm]
    constructor
    ·intro hd
     obtain ⟨r, hr, rfl⟩ := List.mem_map.1 hd
     exact List.mem_map.2 ⟨r, hp'.subset (hsub.subset hr), rfl⟩
    ·intro hd
     obtain ⟨r, hr, rfl⟩ := List.mem_map.1 hd
     obtain ⟨i, hi, hri⟩ := List.mem_iff_getElem.1 (hp'.symm.subset hr)
     obtain ⟨z, hz, hz1, hz2⟩ := hcv i hi r (by rw [List.getElem?_eq_getElem hi, hri])
     refine List.mem_map.2 ⟨z, hz, ?_⟩
     have h1 := hfun r hr
     have h2 := hfun z (hp'.subset (hsub.subset hz))
     have e1 : z.dec.k = r.dec.k := hz1
     have e2 : z.dec.l = r.dec.l := hz2
     rw [e1, e2, <- h1] at h2
     cases hzd : z.dec; cases hrd : r.dec
     rw [hzd, hrd] at e1 e2 h2
     simp only at e1 e2 h2
     subst e1; subst e2; subst h2; rfl
   repeat (first|refine lNi ?_|refine xTh ?_|refine rSt rfl rfl rfl rfl rfl rfl rfl (by repeat constructor) (by rfl) ?_|refine c_ret ?_|fail)
   cases K with
   | nil => exact absurd rfl hKne
   | cons k0 K =>
    refine x_ret rfl rfl (by repeat constructor) rfl (fun W hW => ⟨⟨⟨es1, k0 :: K, sb, sc, rest'⟩, i1, fun _ => hg', fun r hr => i3 r (hp'.subset (hsub.subset hr)), hso.1, hdm'⟩, rfl, ?_⟩)
    have hpr : ∀ {S B M N Q G : Nat × Obj} {R R' : List (Nat × Obj)}, R.Perm R' -> (S :: B :: M :: N :: Q :: G :: R).Perm ((M :: S :: R') ++ [B, N, Q, G]) := fun {S B M N Q G R R'} h =>
     List.Perm.trans (perm_by [[S], [B], [M], [N], [Q], [G], R] [0, 1, 2, 3, 4, 5, 6] [2, 0, 6, 1, 3, 4, 5] rfl (by simp) (by simp)) (((h.cons S).cons M).append_right [B, N, Q, G])
    have h1 := hW.perm (hpr (hp'.symm.flatMap_right DR.ms))
    exact h1.mono (((rowsM_sub hsub).cons_cons _).cons_cons _ |>.trans (List.sublist_append_left _ _))
 | cons p qs =>
  simp only [List.length_cons]
  have hpr := i5.met p (.inl List.mem_cons_self)
  obtain ⟨hpp, hpx⟩ := hH.pos p hpr
  have hfl : ((p :: qs).map plE).flatten = plE p ++ (qs.map plE).flatten := by rw [List.map_cons, List.flatten_cons]
  have hrow : RowAt (qp.pre ++ ((p :: qs).map plE).flatten ++ qp.rest ++ qp.post) (qp.o + (0 : Int).toNat * 7) (plE p) := by
   rw [hfl]
   have h1 := i6.pre
   refine ⟨by simp only [List.length_append, plE_len]; omega, ?_⟩
   rw [Int.toNat_zero, Nat.zero_mul, Nat.add_zero, List.append_assoc, List.append_assoc, List.append_assoc, <- h1, List.drop_left, List.take_left]
  refine c_perm (mem' := (bn, pkO (kvS seen)) :: (qp.b, .cells ⟨qp.pre ++ ((p :: qs).map plE).flatten ++ qp.rest ++ qp.post⟩ 54 (0, 0)) :: (bg, bxG a) :: (b.m, es1.o) :: (s1.m bs ++ rowsM s1.rows)) (List.Perm.refl _) ?_
  have hsl : ∀ x ∈ seen, x.2.length = b.n := fun x hx => (hH.pos x (i5.met x (.inr hx))).1.1
  have hget := seen_get hn hpp.1 hsl
  repeat ((fail_if_success refine c_probe (id := 5) ?_); (fail_if_success refine c_probe1 (id := 5) ?_); first|refine lVa rfl rfl (by first|exact pEv rfl|fail) ?_|refine lNi ?_|refine cRg ?_|refine cSq ?_|refine xTh ?_|refine c_dec_t rfl (by first|omega|fail) ?_|refine cBl ?_|refine cSk ?_|fail)
  refine cSq ?_
  repeat ((fail_if_success refine c_probe (id := 6) ?_); (fail_if_success refine c_probe1 (id := 6) ?_); first|refine lVa rfl rfl (v_index rfl rfl rfl rfl (by omega) (by omega) rfl) ?_|refine lVa rfl rfl (v_load_row rfl (by repeat constructor) rfl rfl hrow rfl) ?_|refine r_alloc rfl rfl rfl (plC_zero rfl) (fun _ => ?_)|refine rSt (vs := plC _ _) rfl rfl rfl rfl rfl plC_beq plC_one (by repeat constructor) (putAll (plC_len.trans plC_len.symm)) ?_|refine lVa rfl rfl (by first|exact pEv rfl|fail) ?_|refine lNi ?_|refine cRg ?_|refine xTh ?_|fail)
  rename_i b8
  repeat (first|refine lVa rfl rfl (by first|exact pEv rfl|fail) ?_|refine cRg ?_|refine cSq ?_|fail)
  refine r_tailM (r := plE p) (xs := (qs.map plE).flatten) rfl rfl rfl rfl rfl (by rw [<- hfl]; exact i6) plE_len (fun qp' hq1 hq2 => ?_)
  rw [hfl]
  rw [<- hfl] at hq2
  refine l_perm (mem' := (b8, .cells ⟨plE p⟩ 54 (0, 0)) :: (bn, pkO (kvS seen)) :: qp'.m 54 ((qs.map plE).flatten) :: (bg, bxG a) :: (b.m, es1.o) :: (s1.m bs ++ rowsM s1.rows)) (List.Perm.of_eq (by rw [hq2, <- hfl]; rfl)) ?_
  by_cases hps : p ∈ seen
  ·have hg1 := hget.1 hps
   repeat (first|refine lVa rfl rfl (by first|exact pEv rfl|fail) ?_|refine lNi ?_|refine cSq ?_|refine xTh ?_|refine c_true rfl ?_|refine c_exit ?_|refine xTe ?_|refine xBs ?_|refine c_reads rfl (by decide +kernel) ?_|refine q_val rfl rfl (by first|exact pEv rfl|exact vLd rfl (by repeat constructor) rfl (by rfl)|fail) ?_|refine q_nil ?_|refine q_skip rfl rfl ?_|refine q_val rfl rfl (v_pkGet (k := p.1) (f := kn p.2) (s := kvS seen) rfl rfl rfl pk67 rfl (by repeat constructor) (by rw [hg1])) ?_|fail)
   exact x_back ⟨es1, s1, qs, seen, qp'⟩ ⟨i1, i2, i3, i4, i5.skip (.inl hps), hq1⟩ bmu_skip (by repeat (first|exact .nil|refine .cons rfl (by first|rfl|(congr 1; done)|exact congrArg _ (by omega)|(simp; done)) ?_)) (MSub.drop (MSub.refl _))
  ·have hg1 := hget.2 hps
   repeat ((fail_if_success refine c_probe (id := 8) ?_); (fail_if_success refine c_probe1 (id := 8) ?_); first|refine q_val rfl rfl (v_loadAll rfl (by repeat constructor) rfl rfl plE_len) ?_|refine q_val rfl rfl (v_pkGet (k := p.1) (f := kn p.2) (s := kvS seen) rfl rfl rfl pk67 rfl (by repeat constructor) (by rw [hg1])) ?_|refine lVa rfl rfl (by first|exact pEv rfl|fail) ?_|refine lNi ?_|refine cSq ?_|refine xTh ?_|refine c_reads rfl (by decide +kernel) ?_|refine q_val rfl rfl (by first|exact pEv rfl|exact vLd rfl (by repeat constructor) rfl (by rfl)|exact vL0 rfl (by assumption) rfl (by rfl)|fail) ?_|refine q_nil ?_|fail)
   by_cases hpk : b.T < p.1
   ·repeat (first|refine c_dec_t rfl (by first|omega|fail) ?_|refine c_exit ?_|refine xTe ?_|refine xBs ?_|fail)
    exact x_back ⟨es1, s1, qs, seen, qp'⟩ ⟨i1, i2, i3, i4, i5.skip (.inr hpk), hq1⟩ bmu_skip (by repeat (first|exact .nil|refine .cons rfl (by first|rfl|(congr 1; done)|exact congrArg _ (by omega)|(simp; done)) ?_)) (MSub.drop (MSub.refl _))
   ·have hkT : p.1 <= b.T := by omega
    obtain ⟨hxk, hxl⟩ := hH.nxk p hpr hkT
    obtain ⟨had1, had2⟩ := hH.ads p hpr hkT
    have hi5 := i5.take hps hkT hxl
    have hcnt : ∀ sn : List Pos, sn.Nodup -> (∀ x ∈ sn, x ∈ seen ∨ x = p) -> sn.length <= 48000 := fun sn h1 h2 => by
     have h3 := pos_le (n := b.n) (T := b.T) h1 fun x hx => by
      rcases h2 x hx with h | rfl
      ·obtain ⟨h4, h5⟩ := hH.pos x (i5.met x (.inr h))
       exact ⟨i5.le x h, h4.1, h5⟩
      ·exact ⟨hkT, hpp.1, hpx⟩
     have h4 : (b.T + 1) * (b.T + 2) ^ b.n <= 16 * 3000 := Nat.mul_le_mul (by omega) hfew
     omega
    have hsn := hcnt seen i5.nodup fun x hx => .inl hx
    have hrl : s1.rows.length <= 10000000 := by
     have h1 : s1.rows.length = (seen.flatMap ad).length := by rw [<- i4, List.length_map]
     have h2 := flatMap_len (f := ad) (K := 64) (l := seen) fun x hx => (hH.ads x (i5.met x (.inr hx)) (i5.le x hx)).1
     omega
    have hql := hi5.len
    have hsn2 := hcnt (seen ++ [p]) hi5.nodup fun x hx => by
     rcases List.mem_append.1 hx with h | h
     ·exact .inl h
     ·exact .inr (List.mem_singleton.1 h)
    have hql2 : qs.length + (nx p).length <= 3072001 := by
     simp only [List.length_append, List.length_cons, List.length_nil] at hql hsn2
     omega
    have hup : ∀ {rest : List (Nat × Obj)} {x : Nat × Obj}, Upd (x :: (bn, pkO (kvS seen)) :: rest) bn (pkO (kvS seen)) (pkO (kvS seen ++ [(((p.1 : Int), kn p.2), .bool true)])) (x :: (bn, pkO (kvS (seen ++ [p]))) :: rest) := fun {rest x} => by rw [kvS_snoc]; exact (by repeat constructor)
    repeat (first|refine lVa rfl rfl (by first|exact pEv rfl|exact vLd rfl (by repeat constructor) rfl (by rfl)|fail) ?_|refine lNi ?_|refine cRg ?_|refine cSq ?_|refine xTh ?_|refine c_dec_f rfl (by first|omega|fail) ?_|refine cSk ?_|refine l_do rfl (d_pkNew (k := p.1) (f := kn p.2) (s := kvS seen) rfl rfl rfl rfl pk67 hg1 hup) ?_|fail)
    have hpm : ∀ {B8 BN QQ BG M : Nat × Obj} {S R : List (Nat × Obj)}, (B8 :: BN :: QQ :: BG :: M :: (S ++ R)).Perm ((M :: S) ++ (B8 :: BN :: QQ :: BG :: R)) := fun {B8 BN QQ BG M S R} => perm_by [[B8], [BN], [QQ], [BG], [M], S, R] [0, 1, 2, 3, 4, 5, 6] [4, 5, 0, 1, 2, 3, 6] rfl (by simp) (by simp)
    refine r_callvF (pre := (b.m, es1.o) :: s1.m bs) rfl rfl rfl rfl rfl hpm (fun W hW h1 h2 => hH.step bs bg p hpr hkT es1 s1 W i1 i2 hrl h1 h2 (hg.move hW.same (hW.allButP hpm)) (ext_own hW hpm (b := bg) (T := 49) (fr := (0, 0)) (by repeat constructor)) (hbgs.move hW.same (hW.allButP hpm))) ?_
    rintro ⟨si, j1, j2, j3, j4, j5, j6⟩
    simp only [SI.post]
    obtain ⟨A, cx, hgs, hnw⟩ := gSl_news (c := ⟨Fence.wide, 0, [], w, allBut w [b.m], noJ⟩) (mem := (((b.m, si.es.o) :: si.s.m bs) ++ (rowsM si.rs ++ gM plE 54 (nx p) si.q.b si.q.r)) ++ ((b8, .cells ⟨plE p⟩ 54 (0, 0)) :: (bn, pkO (kvS (seen ++ [p]))) :: qp'.m 54 ((qs.map plE).flatten) :: (bg, bxG a) :: rowsM s1.rows)) (l := nx p) (b := si.q.b) (cap := si.q.c) (r := si.q.r) (fun x hx => List.mem_append_left _ (List.mem_append_right _ (List.mem_append_right _ hx)))
    have hpm2 : ∀ {B8 BN QQ BG : Nat × Obj} {S R R2 G : List (Nat × Obj)}, ((S ++ (R2 ++ G)) ++ (B8 :: BN :: QQ :: BG :: R)).Perm (QQ :: ((B8 :: G) ++ (BN :: BG :: (S ++ (R ++ R2))))) := fun {B8 BN QQ BG S R R2 G} => perm_by [[B8], [BN], [QQ], [BG], S, R, R2, G] [4, 6, 7, 0, 1, 2, 3, 5] [2, 0, 7, 1, 3, 4, 5, 6] rfl (by simp) (by simp)
    refine r_appendM (q := qp') (n := qs.length) (m := (nx p).length) (A := A) (cx := cx) (xs := (qs.map plE).flatten) (ys := ((nx p).map plE).flatten) rfl rfl rfl (show evOp _ (.tmp 39) = _ from congrArg some hgs) rfl rfl hnw hpm2 hq1 ?_ plE_one rfl (by omega) (by simp only [maxLen]; omega) (fun q3 hq3 => ?_)
    ·rw [plE_rows]
    have e1 : (qs.map plE).flatten ++ ((nx p).map plE).flatten = ((qs ++ nx p).map plE).flatten := by rw [List.map_append, List.flatten_append]
    have e2 : qs.length + (nx p).length = (qs ++ nx p).length := by rw [List.length_append]
    have e3 : rowsM s1.rows ++ rowsM si.rs = rowsM si.s.rows := by rw [j2]; unfold rowsM; rw [List.flatMap_append]
    rw [e1, e2] at hq3 ⊢
    rw [e3]
    have hpm3 : ∀ {B8 BN QQ BG M : Nat × Obj} {S R G : List (Nat × Obj)}, (QQ :: ((B8 :: G) ++ (BN :: BG :: ((M :: S) ++ R)))).Perm ((B8 :: G) ++ (BN :: QQ :: BG :: M :: (S ++ R))) := fun {B8 BN QQ BG M S R G} => perm_by [[B8], [BN], [QQ], [BG], [M], S, R, G] [2, 0, 7, 1, 3, 4, 5, 6] [0, 7, 1, 2, 3, 4, 5, 6] rfl (by simp) (by simp)
    refine l_part _ hpm3 ?_
    repeat (first|refine lVa rfl rfl (by first|exact pEv rfl|fail) ?_|refine lNi ?_|refine x_block ?_|fail)
    refine x_back ⟨si.es, si.s, qs ++ nx p, seen ++ [p], q3⟩ ⟨j1, j3, fun r hr => ?_, ?_, hi5, hq3⟩ (bmu_take hkT hxk hxl) (by repeat (first|exact .nil|refine .cons rfl (by first|rfl|(congr 1; done)|exact congrArg _ (by omega)|(simp; done)) ?_)) (MSub.refl _)
    ·simp only at hr
     rw [j2] at hr
     rcases List.mem_append.1 hr with hr | hr
     ·exact i3 r hr
     ·exact j5 r hr
    ·simp only
     rw [j2, List.map_append, i4, j4, List.flatMap_append]
     simp
end R24
end Go.Proofs

namespace Go.Kin.St

end Go.Kin.St

namespace Go.Kin.Ct
open Go.Kin.St
section
variable {n : Nat} {C L : List Lk} (hT : Tree n C) (hL : Fine n L)
include hL in
end
/-! ## The search, from its ends -/
end Go.Kin.Ct

namespace Go.Proofs
open Go.RowKit Go.Kin
namespace R23
abbrev tt := R24.tt
def inE (x : Int) : List Value := [.int .i64 x]
/-- rows in memory that is new -/
structure Fr (w w' : World) (A : Option Addr) (sz : Nat) (rows : List (List Value)) : Prop where
 at' : Kin.At w' A sz rows
 new : ∀ a, A = some a -> rows ≠ [] -> w.heap.size <= a.block
def flatI (l : List Int) : List Value := (l.map inE).flatten
theorem flatI_len (l : List Int) : (flatI l).length = l.length * 1 := by
 induction l with
 | nil => rfl
 | cons x l ih => unfold flatI at ih ⊢; rw [List.map_cons, List.flatten_cons, List.length_append, ih, List.length_cons]; show 1 + _ = _; omega
theorem flatI_app (l m : List Int) : flatI (l ++ m) = flatI l ++ flatI m := by unfold flatI; rw [List.map_append, List.flatten_append]
theorem flatI_one (l : List Int) : allOne (flatI l) = true := by
 induction l with
 | nil => rfl
 | cons x l ih => exact ih
theorem news_pre {c : Cx} {mem : List (Nat × Obj)} {b : Nat} {ys rest : List Value} {T' : TypeId} {fr : Nat × Nat} (hm : (b, Obj.cells ⟨ys ++ rest⟩ T' fr) ∈ mem) : News c mem b 0 ys :=
 ⟨fun W hW j v hj => by rw [hW.cellAt hm, Nat.zero_add, List.getElem?_append_left (List.getElem?_eq_some_iff.1 hj).1]; exact hj⟩
end R23
end Go.Proofs
