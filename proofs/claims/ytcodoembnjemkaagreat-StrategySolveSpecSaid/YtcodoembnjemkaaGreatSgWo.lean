/- Games on networks: what Play calls. -/
import Derived.Test.YtcodoembnjemkaaGreatSgPly
import Derived.Test.YtcodoembnjemkaaGreatSgWn
set_option maxRecDepth 100000
set_option maxHeartbeats 400000000
set_option linter.unusedSectionVars false
set_option linter.unusedVariables false
set_option linter.unusedSimpArgs false
namespace Go.Proofs
open Go.RowKit Go.Kin Go.Kin.St Go.Kin.Ct Go.Kin.Sg
namespace R24
theorem c_lone {P : Program} {N : Nat} {c : Cx} {Q : Exit -> Act -> World -> Prop} {env : List (Nat × Value)} {mem : List (Nat × Obj)} {id : Nat} {ops : Array Oper} {dr : Bool} (k : RunC P N c (.region id ops dr) Q env mem) : RunC P N c (.region id ops dr) Q env mem := k
def castL (l : List Nat) : List Int := l.map fun x : Nat => (x : Int)
theorem castL_len (l : List Nat) : (castL l).length = l.length := List.length_map ..
theorem castL_rows (l : List Nat) : (castL l).map inE = l.map nE := by unfold castL; rw [List.map_map]; rfl
theorem castL_flI (l : List Nat) : flI (castL l) = (l.map nE).flatten := by unfold flI; rw [castL_rows]
theorem castL_filter {l : List Nat} {p : Int -> Bool} {q : Nat -> Bool} (h : ∀ x ∈ l, p (x : Int) = q x) : (castL l).filter p = castL (l.filter q) := by
 unfold castL
 rw [List.filter_map]
 congr 1
 exact List.filter_congr h
theorem castL_mem {l : List Nat} {x : Int} (h : x ∈ castL l) : ∃ y ∈ l, (y : Int) = x := List.mem_map.1 h
theorem castL_contains {l : List Nat} {x : Nat} : (castL l).contains (x : Int) = decide (x ∈ l) := by
 rw [Bool.eq_iff_iff, List.contains_iff_mem, decide_eq_true_iff]
 constructor
 ·intro h
  obtain ⟨y, hy, e⟩ := castL_mem h
  rwa [<- Int.ofNat.inj e]
 ·intro h; exact List.mem_map.2 ⟨x, h, rfl⟩
theorem clone0_calls (w : World) : Calls Tryz.prog 43 ⟨[.slice none 0 0]⟩ w fun e w' => e = .returned (.slice none 0 0) /\ Below w.heap.size w w' := by
 refine fEn Tryz.func43 rfl Tryz.ntmps43 rfl rfl (sWn w) ?_
 repeat (first|refine lVa rfl rfl (by first|exact pEv rfl|fail) ?_|refine lNi ?_|refine cRg ?_|refine cSq ?_|refine xTh ?_|refine c_true rfl ?_|refine c_ret ?_|refine xTr ?_|refine lVa rfl rfl (v_eqNilS0 rfl rfl) ?_|fail)
 exact x_ret rfl rfl (by repeat constructor) rfl (fun W hW => ⟨rfl, hW.below⟩)
theorem delete0_calls (g : Nat) [Ent Tryz.prog g] (fs cs : List Value) (w : World) :
  Calls Tryz.prog 41 ⟨[.slice none 0 0, .func (.func g) ⟨fs⟩ ⟨cs⟩]⟩ w fun e w' => e = .returned (.slice none 0 0) /\ Below w.heap.size w w' := by
 refine fEn Tryz.func41 rfl Tryz.ntmps41 rfl rfl (sWn w) ?_
 repeat (first|refine lVa rfl rfl (by first|exact pEv rfl|fail) ?_|refine lNi ?_|refine cRg ?_|refine cSq ?_|refine xTh ?_|fail)
 refine r_callI (ι := IdxOf (fun _ => false) []) (v := fun r => .int .i64 r.r) rfl rfl rfl (fun W hW => indexF_calls g fs cs (fun _ => false) none 0 [] W (fun i r h => by simp at h) (by simp) fun x hx => by cases hx) (fun r => ?_)
 rcases r.ok with ⟨hr, hno⟩ | ⟨i, hr, hil, hF, y, hy, hpy⟩
 ·rw [hr]
  repeat (first|refine lVa rfl rfl (by first|exact pEv rfl|fail) ?_|refine lNi ?_|refine cRg ?_|refine cSq ?_|refine xTh ?_|refine c_true rfl ?_|refine c_ret ?_|refine xTr ?_|fail)
  exact x_ret rfl rfl (by repeat constructor) rfl (fun W hW => ⟨rfl, hW.below⟩)
 ·simp at hy
/-! ## Taking out, where the order is drawn -/
def dlV (m : Nat) (vs : Array Value) (_ : Pi) : Value := match vs with | ⟨.slice A _ cap :: _⟩ => .slice A m cap | _ => undef
def dlO (fl : List Int) (_ : Array Value) (π : Pi) : Obj := .cells ⟨flI fl ++ restF 1 fl.length π.rest⟩ 3 (0, 0)
theorem delW {w0 : World} {D : Nat -> Prop} (g : Nat) [Ent Tryz.prog g] (fs cs : List Value) (p : Int -> Bool) (b cap : Nat) (l : List Int) (rest : List Value) (w : World) (hgr : Grow 1 l.length (flI l) cap rest) (hl : l.length <= 1000) (hb : w.heap[b]? = some (.cells ⟨flI l ++ rest⟩ 3 (0, 0)))
  (hp : ∀ x ∈ l, ∀ W, Same (allBut w [b]) w W -> Calls Tryz.prog g ⟨fs ++ [.int .i64 x] ++ cs⟩ W fun e w' => e = .returned (.bool (p x)) /\ Below W.heap.size W w') :
  Calls Tryz.prog 41 ⟨[.slice (some ⟨b, 0, none⟩) l.length cap, .func (.func g) ⟨fs⟩ ⟨cs⟩]⟩ w fun e W' => ∃ π, e = .returned (dlV (l.filter fun x => !p x).length ⟨[.slice (some ⟨b, 0, none⟩) l.length cap, .func (.func g) ⟨fs⟩ ⟨cs⟩]⟩ π) /\
   ∀ m, SatW w0 D noJ ((b, .cells ⟨flI l ++ rest⟩ 3 (0, 0)) :: m) w -> SatW w0 D noJ ((b, dlO (l.filter fun x => !p x) ⟨[.slice (some ⟨b, 0, none⟩) l.length cap, .func (.func g) ⟨fs⟩ ⟨cs⟩]⟩ π) :: m) W' := by
 refine (delete_calls g fs cs p b cap l rest w hgr hl hb hp).mono ?_
 rintro e W' ⟨⟨r, hr⟩, rfl, hs⟩
 obtain ⟨g1, g2⟩ := growF hr (by decide)
 refine ⟨⟨0, r, [], []⟩, rfl, fun m hm => ?_⟩
 have h := satW_frame (pre := [(b, .cells ⟨flI l ++ rest⟩ 3 (0, 0))]) (post := [(b, .cells ⟨flI (l.filter fun x => !p x) ++ r⟩ 3 (0, 0))]) hm hs
 unfold dlO
 simp only
 rw [g2]
 exact h
/-- what is left where a block is written -/
theorem sat_but {w0 W W' : World} {D : Nat -> Prop} {p : Nat × Obj} {m : List (Nat × Obj)} (hW : SatW w0 D noJ (p :: m) W) (hS : Same (allBut W [p.1]) W W') : SatW w0 D noJ m W' :=
 satW_frame (pre := [p]) (post := []) hW ⟨hS, fun k h => h.1, by simp, fun q hq => (by cases hq), closed_noJ, trivial⟩
/-- of what is taken out of what may occur -/
def wtB (C : List Lk) (wt : List Int) (k : Int) (f : Nat -> Int) (x : Int) : Bool := decide (k + 1 - f (frO C x.toNat) ≠ wt.getD (ix C x.toNat) 0)
theorem wtB_occ {G : Gm} {wt : List Int} {k : Nat} {l : List Int} : (castL (may G k l)).filter (fun x => !wtB G.C wt k (kn l) x) = castL (occ G wt k l) := by
 unfold occ
 refine castL_filter fun q _ => ?_
 unfold wtB
 rw [Int.toNat_natCast]
 simp only [ne_eq, decide_not, Bool.not_not]
theorem wait31_any (b : GB) (a bG bP bU bW k : Nat) (l : List Int) (A : Option Addr) (cw : Nat) (wt : List Int) (hb : GOK b) (hk : k <= 1000) (hl : PosN b l) (hwl : wt.length = b.C.length) (w : World)
  (hg : GIn b a w) (cG : w.cell? ⟨bG, 0, none⟩ = some (.pointer (some ⟨a, 0, none⟩))) (cP : ∀ j u, (plC k (kn l))[j]? = some u -> w.cell? ⟨bP, j, none⟩ = some u) (cU : w.cell? ⟨bU, 2, none⟩ = some (.slice b.B b.C.length b.cb)) (cW : w.cell? ⟨bW, 0, none⟩ = some (.slice A wt.length cw)) (hA : At w A 1 (wt.map inE)) :
  ∀ x ∈ castL (may b.g k l), Calls Tryz.prog 42 ⟨[] ++ [.int .i64 x] ++ [.pointer (some ⟨bG, 0, none⟩), .pointer (some ⟨bP, 0, none⟩), .pointer (some ⟨bU, 0, none⟩), .pointer (some ⟨bW, 0, none⟩)]⟩ w fun e w' => e = .returned (.bool (wtB b.C wt k (kn l) x)) /\ Below w.heap.size w w' := fun x hx => by
 obtain ⟨q, hq, rfl⟩ := castL_mem hx
 obtain ⟨hqn, hm⟩ := may_mem.1 hq
 obtain ⟨y, hy, h0, hf, _⟩ := mayB_iff.1 hm
 obtain ⟨i, hi, hiy⟩ := lnk_some hy
 obtain ⟨e1, e2⟩ := ix_of hi hiy
 have hn := hb.n
 have hqn : q < b.n := hqn
 have hiy : b.C[i]? = some y := hiy
 have hcal := hb.r y (List.mem_of_getElem? hiy)
 obtain ⟨c1, c2, _⟩ := hcal
 have hil := (List.getElem?_eq_some_iff.1 hiy).1
 have hv : wt[i]? = some (wt.getD i 0) := by rw [List.getD_eq_getElem?_getD, List.getElem?_eq_getElem (by omega)]; rfl
 have hc := hb.c
 have := wait31_calls b a bG bP bU bW k (kn l) A cw wt q i y (wt.getD i 0) w (by omega) hk (fun q => by have := hl.kn q; omega) (iv_some hi) hiy ⟨c1, by omega⟩ (by omega) hv (by omega) hg cG cP cU cW hA
 unfold wtB
 rw [Int.toNat_natCast]
 show Calls _ _ _ _ fun e w' => e = .returned (.bool (decide ((k : Int) + 1 - kn l (frO b.g.C q) ≠ wt.getD (ix b.g.C q) 0))) /\ _
 rw [e1, e2]
 exact this
theorem own_cast {G : Gm} {t : Tab} {k : Nat} {l : List Int} : (castL (doD t k l)).filter (fun v => !!(castL (free G l)).contains v) = castL (own G t k l) := by
 unfold own
 refine castL_filter fun q _ => ?_
 rw [castL_contains, Bool.not_not]
/-! ## What Play answers -/
open Classical in
noncomputable def plc (n : Int) (L C : List Lk) (T : Int) (rows : List DW) (wt : List Int) : Int :=
 if rdC n L C T rows ≠ 0 then rdC n L C T rows else if wt.length = C.length /\ ∀ i x, C[i]? = some x -> x.lo <= wt.getD i 0 /\ wt.getD i 0 <= x.hi then 0 else 1
theorem plc_a {n T : Int} {L C : List Lk} {rows : List DW} {wt : List Int} (h : rdC n L C T rows ≠ 0) : plc n L C T rows wt = rdC n L C T rows := if_pos h
theorem plc_1 {n T : Int} {L C : List Lk} {rows : List DW} {wt : List Int} (h : rdC n L C T rows = 0) (h2 : ¬ (wt.length = C.length /\ ∀ i x, C[i]? = some x -> x.lo <= wt.getD i 0 /\ wt.getD i 0 <= x.hi)) : plc n L C T rows wt = 1 := by unfold plc; rw [if_neg (fun g => g h), if_neg h2]
theorem plc_0 {n T : Int} {L C : List Lk} {rows : List DW} {wt : List Int} (h : rdC n L C T rows = 0) (h2 : wt.length = C.length /\ ∀ i x, C[i]? = some x -> x.lo <= wt.getD i 0 /\ wt.getD i 0 <= x.hi) : plc n L C T rows wt = 0 := by unfold plc; rw [if_neg (fun g => g h), if_pos h2]
/-- what is handed back by Play -/
structure PlI where
 b : Nat
 c : Nat
 r : List Value
def PlQ (n : Int) (L C : List Lk) (T : Int) (rows : List DW) (wt : List Int) (w : World) (e : Ending) (w' : World) : Prop :=
 Below w.heap.size w w' /\ ((plc n L C T rows wt ≠ 0 /\ e = .returned (.tuple ⟨[.slice none 0 0, .int .i64 (plc n L C T rows wt)]⟩)) ∨
  (plc n L C T rows wt = 0 /\ ∃ i : PlI, e = .returned (.tuple ⟨[.slice (some ⟨i.b, 0, none⟩) (plA ⟨n.toNat, T.toNat, L, C⟩ wt (tabW rows)).length i.c, .int .i64 0]⟩) /\ w.heap.size <= i.b /\ w'.heap[i.b]? = some (.cells ⟨flI (plA ⟨n.toNat, T.toNat, L, C⟩ wt (tabW rows)) ++ i.r⟩ 3 (0, 0))))
end R24
end Go.Proofs

set_option maxRecDepth 100000
set_option maxHeartbeats 400000000
namespace Go.Proofs
open Go.RowKit Go.Kin Go.Kin.St Go.Kin.Ct Go.Kin.Sg
namespace R24
theorem gSl_at {l : List Nat} {b cap : Nat} {r : List Value} {w0 W : World} {D : Nat -> Prop} {J : (Nat -> Prop) -> World -> Prop} {mem : List (Nat × Obj)} (hW : SatW w0 D J mem W) (h : ∀ p ∈ gM nE 3 l b r, p ∈ mem) : ∃ A c, gSl l b cap = .slice A l.length c /\ At W A 1 (l.map nE) := by
 cases l with
 | nil => exact ⟨none, 0, rfl, fun i r h => by simp at h⟩
 | cons x l =>
  refine ⟨_, cap, rfl, fun i cs hi => ⟨b, 0, rfl, fun j v hj => ?_⟩⟩
  rw [List.getElem?_map] at hi
  cases hq : (x :: l)[i]? with
  | none => rw [hq] at hi; cases hi
  | some y =>
   rw [hq] at hi; cases hi
   cases j with
   | succ j => cases hj
   | zero =>
    cases hj
    rw [hW.cellAt (h _ List.mem_cons_self)]
    have h1 : (((x :: l).map nE).flatten)[i]? = some (.int .i64 (y : Int)) := by
     have : ((x :: l).map nE).flatten = (x :: l).map fun x : Nat => Value.int .i64 (x : Int) := by
      clear h hq hW
      induction (x :: l) with
      | nil => rfl
      | cons z t ih => rw [List.map_cons, List.flatten_cons, ih]; rfl
     rw [this, List.getElem?_map, hq]; rfl
    rw [show 0 + i * 1 + 0 = i by omega, List.getElem?_append_left (List.getElem?_eq_some_iff.1 h1).1, h1]
theorem within_nat (A B : Option Addr) (ca cb : Nat) (l m : List Nat) (w : World) (hA : At w A 1 (l.map nE)) (hB : At w B 1 (m.map nE)) (hl : l.length <= 1000) (hm : m.length <= 1000) :
  Calls Tryz.prog 27 ⟨[.slice A l.length ca, .slice B m.length cb]⟩ w fun e w' => e = .returned (.bool (decide (∀ x ∈ l, x ∈ m))) /\ Below w.heap.size w w' := by
 have h := within_calls A B ca cb (l.map fun x : Nat => (x : Int)) (m.map fun x : Nat => (x : Int)) w (by rw [List.map_map]; exact hA) (by rw [List.map_map]; exact hB) (by rw [List.length_map]; omega) (by rw [List.length_map]; omega)
 rw [List.length_map, List.length_map] at h
 refine h.mono fun e w' ⟨h1, h2⟩ => ⟨?_, h2⟩
 rw [h1]
 congr 2
 rw [Bool.eq_iff_iff, allIn_iff, decide_eq_true_iff]
 constructor
 ·intro hx x hxl
  obtain ⟨y, hy, e⟩ := List.mem_map.1 (hx x (List.mem_map.2 ⟨x, hxl, rfl⟩))
  rwa [<- Int.ofNat.inj e]
 ·intro hx y hy
  obtain ⟨x, hxl, rfl⟩ := List.mem_map.1 hy
  exact List.mem_map.2 ⟨x, hx x hxl, rfl⟩
theorem permW {β : Type} {X T : List β} {q y z : β} : ((X ++ [q]) ++ [y, z]).Perm (X ++ (y :: [q, z])) := perm_by [X, [q], [y], [z]] [0, 1, 2, 3] [0, 2, 1, 3] rfl (by simp) (by simp)
theorem wins49_step (b : GB) (a bT bG bM bF bm : Nat) (rows : List DW) (hb : GOK b) (hok : okS b.n b.T rows) (f k : Nat) (hkf : k + (f + 1) = b.T + 1)
  (ih : ∀ (l : List Int) (w : World), PosN b l -> WEnv b a bT bG bM bF bm 23 rows w -> Calls Tryz.prog 23 ⟨[] ++ [.agg ⟨plC (((k + 1 : Nat) : Int)) (kn l)⟩] ++ capsW bT bG bM bF⟩ w fun e w' => e = .returned (.bool (wnB b rows f (k + 1) l)) /\ Below w.heap.size w w')
  (l : List Int) (w : World) (hl : PosN b l) (he : WEnv b a bT bG bM bF bm 23 rows w) :
  Calls Tryz.prog 23 ⟨[] ++ [.agg ⟨plC k (kn l)⟩] ++ capsW bT bG bM bF⟩ w fun e w' => e = .returned (.bool (wnB b rows (f + 1) k l)) /\ Below w.heap.size w w' := by
 have hT := hb.T
 have hn := hb.n
 have hk : k <= b.T := by omega
 have eT := ext1 he.cT
 have eG := ext1 he.cG
 have eM := ext1 he.cM
 have eF := ext1 he.cF
 have hml : (may b.g k l).length <= 6 := Nat.le_trans may_len hn
 have hdl : (Sg.due b.g k l).length <= 6 := Nat.le_trans due_len hn
 refine fEn Tryz.func23 rfl Tryz.ntmps23 rfl rfl (sWn w) ?_
 repeat ((fail_if_success refine c_probe (id := 3) ?_); (fail_if_success refine c_probe1 (id := 3) ?_); first|refine lVa rfl rfl (by first|exact pEv rfl|exact vLd rfl (by repeat constructor) rfl (by rfl)|exact vL0 rfl (by assumption) rfl (by rfl)|fail) ?_|refine lNi ?_|refine cRg ?_|refine cSq ?_|refine xTh ?_|refine r_box rfl rfl rfl rfl (fun _ => ?_)|refine r_alloc rfl rfl rfl (by first|exact aggL|fail) (fun _ => ?_)|refine c_dec_f rfl (by first|omega|exact fun h => h rfl|fail) ?_|refine cSk ?_|fail)
 rename_i b5 b6
 repeat refine cSq ?_
 refine c_new 0 7 [(1, .calO 0 (fun b => .agg ⟨plO b⟩) (bxG a)), (4, .calL [1, 2, 3, 4, 5, 6] (mvV (may b.g k l) (Sg.due b.g k l)) (mvO k (kn l) 0 (may b.g k l) (Sg.due b.g k l)))] [(1, [0]), (4, [1, 2, 3, 4, 5, 6])] [(4, 0)] rfl (by decide +kernel) rfl ?_
 refine e_val rfl rfl rfl rfl (by first|exact vL0 rfl (by assumption) rfl (by rfl) ) ?_
 refine e_callO rfl rfl rfl rfl rfl rfl (fun W hW => others_calls a W) (fun bq => ?_)
 refine e_val rfl rfl rfl rfl (by first|exact pEv rfl ) ?_
 refine e_val rfl rfl rfl rfl (v_loadAll rfl (by repeat constructor) rfl rfl plC_len) ?_
 refine e_callvL rfl rfl rfl rfl rfl rfl rfl (by decide) (fun _ => mvO_len) rfl (fun W hW => ?_) (fun π => ?_)
 ·have hcell := hW.cellAt (b := bq) (l := [.pointer (some ⟨a, 0, none⟩)]) (T := 49) (fr := (0, 0)) (by repeat constructor) 0
  refine (movO_calls b a bq k (kn l) W hn (by omega) (fun q => by have := hl.kn q; omega) hb.r hb.c (he.later hW.below).g hcell).mono fun e W' h => ?_
  obtain ⟨π, h1, h2⟩ := movQ_L ⟨_⟩ h
  exact ⟨π, h1, fun m hm => h2 m hm⟩
 have hcok := cbP_ok (π := π) hml hdl
 obtain ⟨c, hc⟩ : ∃ c, cbP (may b.g k l) (Sg.due b.g k l) π = c := ⟨_, rfl⟩
 rw [hc] at hcok
 have ho : mvO k (kn l) 0 (may b.g k l) (Sg.due b.g k l) ⟨[.agg ⟨plC k (kn l)⟩, .pointer (some ⟨bq, 0, none⟩)]⟩ π = c.ms k (kn l) 0 (may b.g k l) (Sg.due b.g k l) := by unfold mvO; rw [hc]
 have hov : mvV (may b.g k l) (Sg.due b.g k l) ⟨[.agg ⟨plC k (kn l)⟩, .pointer (some ⟨bq, 0, none⟩)]⟩ π = c.v := by unfold mvV; rw [hc]
 refine e_nilP (mem' := c.ms k (kn l) 0 (may b.g k l) (Sg.due b.g k l) ++ ((b6, .cells ⟨[.bool false]⟩ 4 (0, 0)) :: [(bq, bxG a), (b5, .cells ⟨plC k (kn l)⟩ 54 (0, 0))])) ?_ ?_
 ·refine ((perm_setL (ps := [1, 2, 3, 4, 5, 6]) (m := [some (bq, bxG a), none, none, none, none, none, none]) ?_ (by decide) ?_).symm.append_right _).trans ?_
  ·intro p hp
   simp only [List.mem_cons, List.not_mem_nil, or_false] at hp
   rcases hp with rfl | rfl | rfl | rfl | rfl | rfl <;> rfl
  ·exact mvO_len
  ·refine List.Perm.trans (List.Perm.of_eq ?_) (permW (T := []) (X := c.ms k (kn l) 0 (may b.g k l) (Sg.due b.g k l)) (q := (bq, bxG a)) (y := (b6, .cells ⟨[.bool false]⟩ 4 (0, 0))) (z := (b5, .cells ⟨plC k (kn l)⟩ 54 (0, 0))))
   show (mvO k (kn l) 0 (may b.g k l) (Sg.due b.g k l) ⟨[.agg ⟨plC k (kn l)⟩, .pointer (some ⟨bq, 0, none⟩)]⟩ π ++ [(bq, bxG a)]) ++ _ = _
   rw [ho]
   rfl
 repeat (first|refine xTh ?_|refine cBl ?_|fail)
 have hl6 := allCh_len (ps := may b.g k l) (must := Sg.due b.g k l) hml
 obtain ⟨gd, hgd⟩ : ∃ gd : List Nat -> Prop, gd = fun S => (∀ x ∈ doD (tabW rows) k (put l S (k + 1)), x ∈ free b.g (put l S (k + 1))) /\ Wn b.g (tabW rows) f (k + 1) (put (put l S (k + 1)) (doD (tabW rows) k (put l S (k + 1))) (k + 1)) := ⟨_, rfl⟩
 have hWn : Wn b.g (tabW rows) (f + 1) k l ↔ ∀ S ∈ allCh (may b.g k l) (Sg.due b.g k l), gd S := by
  rw [hgd]
  constructor
  ·intro h S hS; exact h S (ch_mem.2 hS)
  ·intro h S hS; exact h S (ch_mem.1 hS)
 have hbm : bm < w.heap.size := (Array.getElem?_eq_some_iff.1 he.m).1
 refine c_rangeH (chH k (kn l) 0) (allCh (may b.g k l) (Sg.due b.g k l)) (fun x => x ∈ (c.ms k (kn l) 0 (may b.g k l) (Sg.due b.g k l)).map (·.1)) (c.ms k (kn l) 0 (may b.g k l) (Sg.due b.g k l)) (ι := Option Nat) (fun o => o.getD 0)
  (fun o => match o with | some i => ∀ S ∈ (allCh (may b.g k l) (Sg.due b.g k l)).take i, gd S | none => False)
  (fun _ => [(b6, .cells ⟨[.bool false]⟩ 4 (0, 0))])
  (fun cd o => cd = .ret /\ o = none /\ ∃ S ∈ allCh (may b.g k l) (Sg.due b.g k l), ¬ gd S)
  (some 0) (show evOp _ (.tmp 21) = some c.v from congrArg some hov) (fun W W1 hW hS => cb_it c hml hdl (fun x hx => by have := may_lt' x hx; omega) (by omega) (by omega) hW (fun p hp => List.mem_append_left _ hp) hS) (fun b hb => .inr hb) (fun x _ vs ms h => by obtain ⟨b, cap, rest, _, rfl, _⟩ := h; rfl) (by decide) rfl
  (fun S hS => by simp at hS) (mSub_app (MSub.keep rfl (MSub.drop (MSub.drop MSub.nil))) _)
  (env' := [(2, .pointer (some ⟨bG, 0, none⟩)), (3, .pointer (some ⟨bM, 0, none⟩)), (4, .pointer (some ⟨bF, 0, none⟩)), (6, .pointer (some ⟨b6, 0, none⟩))]) (by repeat (first|exact .nil|refine .cons rfl (by first|rfl|(congr 1; done)|exact congrArg _ (by omega)|(simp; done)) ?_)) ?_ ?_ ?_
 ·rintro (_ | i) hI hki vs ms hH n lp W hW hDl hol2
  ·exact hI.elim
  simp only [Option.getD_some] at hI hki hH hW hol2 ⊢
  obtain ⟨sb, scap, srest, hsg, rfl, rfl⟩ := hH
  obtain ⟨S, hS⟩ : ∃ S, (allCh (may b.g k l) (Sg.due b.g k l))[i] = S := ⟨_, rfl⟩
  have hS2 : (allCh (may b.g k l) (Sg.due b.g k l))[i]? = some S := by rw [List.getElem?_eq_getElem hki, hS]
  rw [hS] at hsg hW hol2 ⊢
  have hSm := List.mem_of_getElem? hS2
  have hSl := ch_lt hSm may_lt'
  have hgS : gd S ↔ (∀ x ∈ doD (tabW rows) k (put l S (k + 1)), x ∈ free b.g (put l S (k + 1))) /\ Wn b.g (tabW rows) f (k + 1) (put (put l S (k + 1)) (doD (tabW rows) k (put l S (k + 1))) (k + 1)) := by rw [hgd]
  obtain ⟨q, hq⟩ : ∃ q, put l S ((k : Int) + 1) = q := ⟨_, rfl⟩
  have hpq : PosN b q := by rw [<- hq]; exact hl.put (by omega)
  have hpf : putF (kn l) S ((k : Int) + 1) = kn q := by rw [<- hq]; exact putF_kn fun x hx => by have := hSl x hx; have := hl.1; omega
  rw [hq] at hgS
  obtain ⟨A, cap, htab, hDlt, hDat⟩ := tab_slice (b := b) (a := a) (bT := bT) (bG := bG) (bM := bM) (bF := bF) (bm := bm) (fn := 23) hok k q
  obtain ⟨D, hD⟩ : ∃ D, doD (tabW rows) k q = D := ⟨_, rfl⟩
  have hDi : D.Pairwise (· < ·) := by rw [<- hD]; exact doD_inc (tabW_inc hok) _ _
  have hD6 : D.length <= 6 := by
   have := nodup_lt (m := b.n) (l := D) (hDi.imp fun h => Nat.ne_of_lt h) (by rw [<- hD]; exact hDlt)
   omega
  rw [hD] at htab hDlt hDat hgS
  obtain ⟨q2, hq2⟩ : ∃ q2, put q D ((k : Int) + 1) = q2 := ⟨_, rfl⟩
  have hpq2 : PosN b q2 := by rw [<- hq2]; exact hpq.put (by omega)
  have hpf2 : putF (kn q) D ((k : Int) + 1) = kn q2 := by rw [<- hq2]; exact putF_kn fun x hx => by have := hDlt x hx; have := hpq.1; omega
  rw [hq2] at hgS
  have hrl : ∀ r ∈ rows, r.l.length = b.n := fun r hr => by
   obtain ⟨j, hj, hrj⟩ := List.mem_iff_getElem.1 hr
   exact (hok j r (by rw [List.getElem?_eq_getElem hj, hrj])).l
  have hlook : (match pkGet (kvR rows) k (kn q) with | some v => (match false with | true => Value.tuple ⟨[v, .bool true]⟩ | false => v) | none => (match false with | true => Value.tuple ⟨[.slice none 0 0, .bool false]⟩ | false => .slice none 0 0)) = .slice A D.length cap := by
   rw [kvR_get hn hpq.1 k hrl, <- htab]
   cases rowOf rows k q <;> rfl
  rw [hpf, Int.add_zero]
  refine c_sub _ (List.sublist_append_right _ _) ?_
  repeat (first|refine r_alloc rfl rfl rfl (plC_zero rfl) (fun _ => ?_)|refine rSt (vs := plC _ _) rfl rfl rfl rfl rfl plC_beq plC_one (by repeat constructor) (putAll (plC_len.trans plC_len.symm)) ?_|refine lNi ?_|refine cRg ?_|fail)
  refine x_body hW hDl hol2 (fun n2 W2 r2 hW2 hr2 ho2 => ?_)
  rename_i b8
  have he2 := he.later hW2.below
  have hbm2 := hW2.within (b := bm) hbm
  have eG2 := eG.into hW2
  have eM2 := eM.into hW2
  have eF2 := eF.into hW2
  repeat ((fail_if_success refine c_probe (id := 5) ?_); (fail_if_success refine c_probe1 (id := 5) ?_); first|refine cBl ?_|fail)
  repeat refine cSq ?_
  refine c_new 0 1 [(4, .cal (.agg ⟨plC k (kn q2)⟩)), (5, .new 0), (6, .sto 0 0 7)] [(4, []), (5, [0]), (6, [0])] [] rfl (by decide +kernel) rfl ?_
  repeat (first|refine e_val rfl rfl rfl rfl (by first|exact vLd rfl (by repeat constructor) rfl (by rfl)|exact vL0 rfl (by assumption) rfl (by rfl)|fail) ?_|refine e_val rfl rfl rfl rfl (v_pkGetX (k := k) (f := kn q) (s := kvR rows) rfl rfl rfl pk67 rfl he2.m hbm2 hlook) ?_|fail)
  refine e_call rfl rfl rfl rfl rfl (fun W3 hW3 => ?_) ?_
  ·have := with_calls k (kn q) D A cap W3 (by omega) (fun x hx => by have := hDlt x hx; omega) (by omega) (hDat W3 (he.later (hW2.back hW3).below))
   rw [hpf2] at this; exact this
  repeat ((fail_if_success refine c_probe (id := 7) ?_); (fail_if_success refine c_probe1 (id := 7) ?_); first|refine e_new rfl rfl rfl rfl (n_alloc rfl (plC_zero rfl)) (fun _ => ?_)|refine e_store (vs := plC _ _) rfl rfl rfl rfl rfl plC_beq plC_one rfl rfl rfl rfl (by rw [plC_len]; decide) (splice_all (plC_len.trans plC_len.symm)) ?_|refine r_store_at rfl rfl rfl rfl rfl rfl (by repeat constructor) (by rw [plC_len]; omega) plC_set0 ?_|refine lVa rfl rfl (by first|exact v_add rfl rfl (by omega) (by omega)|exact pEv rfl|exact vLd rfl (by repeat constructor) rfl (by rfl)|fail) ?_|refine lNi ?_|refine cRg ?_|refine cSq ?_|refine xTh ?_|refine e_nil rfl ?_|fail)
  rename_i b9
  have ekk : (((k + 1 : Nat)) : Int) = (k : Int) + 1 := by omega
  rw [ekk] at ih
  obtain ⟨fr, hfr⟩ : ∃ fr, free b.g q = fr := ⟨_, rfl⟩
  have hfr6 : fr.length <= 6 := by rw [<- hfr]; exact Nat.le_trans free_len hn
  obtain ⟨w2, hw2⟩ : ∃ w2, wnB b rows f (k + 1) q2 = w2 := ⟨_, rfl⟩
  obtain ⟨w1, hw1⟩ : ∃ w1, decide (∀ x ∈ D, x ∈ fr) = w1 := ⟨_, rfl⟩
  rw [hfr] at hgS
  repeat refine cSq ?_
  refine c_new 0 1 [(5, .calL [0] (lsV fr) (lsO fr)), (6, .cal (.bool w1)), (11, .cal (.bool w2))] [(5, [0]), (6, []), (11, [])] [(6, 0)] rfl (by decide +kernel) rfl ?_
  repeat (first|refine e_val rfl rfl rfl rfl (by first|exact vLd rfl (by repeat constructor) rfl (by rfl)|exact vL0 rfl (by assumption) rfl (by rfl)|fail) ?_|refine e_val rfl rfl rfl rfl (v_pkGetX (k := k) (f := kn q) (s := kvR rows) rfl rfl rfl pk67 rfl he2.m hbm2 hlook) ?_|fail)
  refine e_callL rfl rfl rfl rfl rfl (by decide) (fun _ => by unfold lsO; exact gM_le) rfl (fun W3 hW3 => ?_) (fun π2 => ?_)
  ·have h := free_calls b a k (kn q) W3 hn (he.later (hW2.back hW3).below).g
   rw [free_flt, hfr] at h
   refine h.mono fun e W' h => ?_
   obtain ⟨π, h1, h2⟩ := lsQ_L ⟨_⟩ h
   exact ⟨π, h1, fun m hm => h2 m hm⟩
  cases fr with
  | nil =>
   refine e_call rfl rfl rfl rfl rfl (fun W3 hW3 => ?_) ?_
   ·obtain ⟨A2, c2, hA2, hAt2⟩ := gSl_at (l := ([] : List Nat)) (b := π2.b) (cap := capF 1 ([] : List Nat).length π2.rest) (r := restF 1 ([] : List Nat).length π2.rest) hW3 (fun p hp => (by cases hp))
    have h := within_nat A A2 cap c2 D ([] : List Nat) W3 (hDat W3 (he.later (hW2.back hW3).below)) hAt2 (by omega) (by omega)
    rw [<- hA2, hw1] at h
    exact h
   cases w1 with
   | false =>
    have hng : ¬ gd S := fun h => of_decide_eq_false hw1 (hgS.1 h).1
    repeat (first|refine lNi ?_|refine cRg ?_|refine cSq ?_|refine xTh ?_|refine rSt rfl rfl rfl rfl rfl rfl rfl (by repeat constructor) (by rfl) ?_|refine c_true rfl ?_|refine c_ret ?_|refine xBr ?_|refine e_val rfl rfl rfl rfl (by first|exact pEv rfl|exact vLd rfl (by repeat constructor) rfl (by rfl)|exact vL0 rfl (by assumption) rfl (by rfl)|fail) ?_|refine e_skip rfl rfl ?_|refine e_nil rfl ?_|fail)
    exact x_leave_ret none ⟨rfl, rfl, S, hSm, hng⟩ (by repeat (first|exact .nil|refine .keep (by first|rfl|assumption) ?_|refine .drop ?_|exact MSub.refl _))
   | true =>
    repeat (first|refine e_val rfl rfl rfl rfl (by first|exact pEv rfl|exact vLd rfl (by repeat constructor) rfl (by rfl)|exact vL0 rfl (by assumption) rfl (by rfl)|fail) ?_|fail)
    refine e_callv rfl rfl rfl rfl rfl rfl rfl (fun W3 hW3 => ?_) ?_
    ·have := ih q2 W3 hpq2 (he.later (hW2.back hW3).below)
     rw [hw2] at this
     exact this
    cases w2 with
    | false =>
     have hng : ¬ gd S := fun h => by
      have := wnB_iff.2 (hgS.1 h).2
      rw [hw2] at this; cases this
     repeat (first|refine lNi ?_|refine cRg ?_|refine cSq ?_|refine xTh ?_|refine rSt rfl rfl rfl rfl rfl rfl rfl (by repeat constructor) (by rfl) ?_|refine c_true rfl ?_|refine c_ret ?_|refine xBr ?_|refine e_val rfl rfl rfl rfl (by first|exact pEv rfl|fail) ?_|refine e_nil rfl ?_|fail)
     exact x_leave_ret none ⟨rfl, rfl, S, hSm, hng⟩ (by repeat (first|exact .nil|refine .keep (by first|rfl|assumption) ?_|refine .drop ?_|exact MSub.refl _))
    | true =>
     have hgo : gd S := hgS.2 ⟨of_decide_eq_true hw1, wnB_iff.1 hw2⟩
     repeat (first|refine xTh ?_|refine c_false rfl ?_|refine cSk ?_|refine x_block ?_|refine e_val rfl rfl rfl rfl (by first|exact pEv rfl|fail) ?_|refine e_nil rfl ?_|fail)
     refine x_next (some (i + 1)) rfl (fun S' hS' => ?_) (by repeat (first|exact .nil|refine .keep (by first|rfl|assumption) ?_|refine .drop ?_|exact MSub.refl _))
     rw [List.take_add_one, hS2] at hS'
     rcases List.mem_append.1 hS' with h | h
     ·exact hI S' h
     ·simp only [Option.toList_some, List.mem_singleton] at h
      rw [h]; exact hgo
  | cons y fr =>
   refine e_call rfl rfl rfl rfl rfl (fun W3 hW3 => ?_) ?_
   ·obtain ⟨A2, c2, hA2, hAt2⟩ := gSl_at (l := y :: fr) (b := π2.b) (cap := capF 1 (y :: fr).length π2.rest) (r := restF 1 (y :: fr).length π2.rest) hW3 (fun p hp => (by rw [List.mem_singleton.1 hp]; exact (by repeat constructor)))
    have h := within_nat A A2 cap c2 D (y :: fr) W3 (hDat W3 (he.later (hW2.back hW3).below)) hAt2 (by omega) (by omega)
    rw [<- hA2, hw1] at h
    exact h
   cases w1 with
   | false =>
    have hng : ¬ gd S := fun h => of_decide_eq_false hw1 (hgS.1 h).1
    repeat (first|refine lNi ?_|refine cRg ?_|refine cSq ?_|refine xTh ?_|refine rSt rfl rfl rfl rfl rfl rfl rfl (by repeat constructor) (by rfl) ?_|refine c_true rfl ?_|refine c_ret ?_|refine xBr ?_|refine e_val rfl rfl rfl rfl (by first|exact pEv rfl|exact vLd rfl (by repeat constructor) rfl (by rfl)|exact vL0 rfl (by assumption) rfl (by rfl)|fail) ?_|refine e_skip rfl rfl ?_|refine e_nil rfl ?_|fail)
    exact x_leave_ret none ⟨rfl, rfl, S, hSm, hng⟩ (by repeat (first|exact .nil|refine .keep (by first|rfl|assumption) ?_|refine .drop ?_|exact MSub.refl _))
   | true =>
    repeat (first|refine e_val rfl rfl rfl rfl (by first|exact pEv rfl|exact vLd rfl (by repeat constructor) rfl (by rfl)|exact vL0 rfl (by assumption) rfl (by rfl)|fail) ?_|fail)
    refine e_callv rfl rfl rfl rfl rfl rfl rfl (fun W3 hW3 => ?_) ?_
    ·have := ih q2 W3 hpq2 (he.later (hW2.back hW3).below)
     rw [hw2] at this
     exact this
    cases w2 with
    | false =>
     have hng : ¬ gd S := fun h => by
      have := wnB_iff.2 (hgS.1 h).2
      rw [hw2] at this; cases this
     repeat (first|refine lNi ?_|refine cRg ?_|refine cSq ?_|refine xTh ?_|refine rSt rfl rfl rfl rfl rfl rfl rfl (by repeat constructor) (by rfl) ?_|refine c_true rfl ?_|refine c_ret ?_|refine xBr ?_|refine e_val rfl rfl rfl rfl (by first|exact pEv rfl|fail) ?_|refine e_nil rfl ?_|fail)
     exact x_leave_ret none ⟨rfl, rfl, S, hSm, hng⟩ (by repeat (first|exact .nil|refine .keep (by first|rfl|assumption) ?_|refine .drop ?_|exact MSub.refl _))
    | true =>
     have hgo : gd S := hgS.2 ⟨of_decide_eq_true hw1, wnB_iff.1 hw2⟩
     repeat (first|refine xTh ?_|refine c_false rfl ?_|refine cSk ?_|refine x_block ?_|refine e_val rfl rfl rfl rfl (by first|exact pEv rfl|fail) ?_|refine e_nil rfl ?_|fail)
     refine x_next (some (i + 1)) rfl (fun S' hS' => ?_) (by repeat (first|exact .nil|refine .keep (by first|rfl|assumption) ?_|refine .drop ?_|exact MSub.refl _))
     rw [List.take_add_one, hS2] at hS'
     rcases List.mem_append.1 hS' with h | h
     ·exact hI S' h
     ·simp only [Option.toList_some, List.mem_singleton] at h
      rw [h]; exact hgo
 ·rintro B (_ | i) hki hI
  ·exact hI.elim
  simp only [Option.getD_some] at hki hI
  rw [hki, List.take_length] at hI
  have hv : wnB b rows (f + 1) k l = true := wnB_iff.2 (hWn.2 hI)
  rw [hv]
  refine x_part (c.ms k (kn l) 0 (may b.g k l) (Sg.due b.g k l)) (mem' := [(B, .deferred (some [])), (b6, .cells ⟨[.bool false]⟩ 4 (0, 0))]) List.perm_middle.symm ?_
  repeat (first|refine lNi ?_|refine cRg ?_|refine cSq ?_|refine xTh ?_|refine rSt rfl rfl rfl rfl rfl rfl rfl (by repeat constructor) (by rfl) ?_|refine c_ret ?_|refine x_block ?_|fail)
  exact x_rets (Ds := [B]) rfl rfl (Split.mark (split_self _)) rfl (by repeat constructor) rfl (fun W hW => ⟨rfl, hW.below⟩)
 ·rintro B cd o ⟨rfl, rfl, S, hS, hng⟩
  have hv : wnB b rows (f + 1) k l = false := by
   cases h : wnB b rows (f + 1) k l with
   | false => rfl
   | true => exact absurd (hWn.1 (wnB_iff.1 h) S hS) hng
  rw [hv]
  refine c_part (c.ms k (kn l) 0 (may b.g k l) (Sg.due b.g k l)) (mem' := [(B, .deferred (some [])), (b6, .cells ⟨[.bool false]⟩ 4 (0, 0))]) List.perm_middle.symm ?_
  repeat (first|refine c_ret ?_|refine xTr ?_|refine xBr ?_|fail)
  exact x_rets (Ds := [B]) rfl rfl (Split.mark (split_self _)) rfl (by repeat constructor) rfl (fun W hW => ⟨rfl, hW.below⟩)
theorem wins49_calls (b : GB) (a bT bG bM bF bm : Nat) (rows : List DW) (hb : GOK b) (hok : okS b.n b.T rows) : ∀ (f k : Nat), k + f = b.T + 1 -> ∀ (l : List Int) (w : World), PosN b l -> WEnv b a bT bG bM bF bm 23 rows w ->
  Calls Tryz.prog 23 ⟨[] ++ [.agg ⟨plC k (kn l)⟩] ++ capsW bT bG bM bF⟩ w fun e w' => e = .returned (.bool (wnB b rows f k l)) /\ Below w.heap.size w w'
 | 0, k, hk, l, w, hl, he => wins49_end b a bT bG bM bF bm rows hb k (by omega) l w hl he
 | f + 1, k, hk, l, w, hl, he => wins49_step b a bT bG bM bF bm rows hb hok f k hk (fun l w hl he => wins49_calls b a bT bG bM bF bm rows hb hok f (k + 1) (by omega) l w hl he) l w hl he
end R24
end Go.Proofs
