/- Games on networks: what Play calls. -/
import Derived.Test.YtcodoembnjemkaaSgPa
import Derived.Test.YtcodoembnjemkaaSgPly
set_option linter.unusedSectionVars false
set_option linter.unusedVariables false
set_option linter.unusedSimpArgs false
namespace Go.Proofs
open Go.RowKit Go.Kin Go.Kin.St Go.Kin.Ct Go.Kin.Sg
namespace R24
theorem c_lone {P : Program} {N : Nat} {c : Cx} {Q : Exit → Act → World → Prop} {env : List (Nat × Value)} {mem : List (Nat × Obj)} {id : Nat} {ops : Array Oper} {dr : Bool} (k : RunC P N c (.region id ops dr) Q env mem) : RunC P N c (.region id ops dr) Q env mem := k
def castL (l : List Nat) : List Int := l.map fun x : Nat => (x : Int)
theorem castL_len (l : List Nat) : (castL l).length = l.length := List.length_map ..
theorem castL_rows (l : List Nat) : (castL l).map inE = l.map nE := by unfold castL; rw [List.map_map]; rfl
theorem castL_flI (l : List Nat) : flI (castL l) = (l.map nE).flatten := by unfold flI; rw [castL_rows]
theorem castL_filter {l : List Nat} {p : Int → Bool} {q : Nat → Bool} (h : ∀ x ∈ l, p (x : Int) = q x) : (castL l).filter p = castL (l.filter q) := by
  unfold castL
  rw [List.filter_map]
  congr 1
  exact List.filter_congr h
theorem castL_mem {l : List Nat} {x : Int} (h : x ∈ castL l) : ∃ y ∈ l, (y : Int) = x := List.mem_map.1 h
theorem castL_contains {l : List Nat} {x : Nat} : (castL l).contains (x : Int) = decide (x ∈ l) := by
  rw [Bool.eq_iff_iff, List.contains_iff_mem, decide_eq_true_iff]
  constructor
  · intro h
    obtain ⟨y, hy, e⟩ := castL_mem h
    rwa [← Int.ofNat.inj e]
  · intro h; exact List.mem_map.2 ⟨x, h, rfl⟩
set_option maxRecDepth 100000 in
set_option maxHeartbeats 40000000 in
theorem clone0_calls (w : World) : Calls Try.prog 33 ⟨[.slice none 0 0]⟩ w fun e w' => e = .returned (.slice none 0 0) ∧ Below w.heap.size w w' := by
  refine fun_enter Try.func33 rfl Try.ntmps33 rfl rfl (satW_nil w) ?_
  repeat (first | refine l_val rfl rfl (by first | exact pureEval_ok rfl  | fail) ?_ | refine l_nil ?_ | refine c_region ?_ | refine c_seq ?_ | refine x_then ?_ | refine c_true rfl ?_ | refine c_ret ?_ | refine x_then_ret ?_ | refine l_val rfl rfl (v_eqNilS0 rfl rfl) ?_  | fail)
  exact x_ret rfl rfl (by repeat (first | exact Res.nil | (apply Res.tmp; rfl) | (apply Res.cell; rfl; exact (by repeat (first | exact List.Mem.head _ | apply List.Mem.tail)); rfl; rfl))) rfl (fun W hW => ⟨rfl, hW.below⟩)
set_option maxRecDepth 100000 in
set_option maxHeartbeats 40000000 in
theorem delete0_calls (g : Nat) [Ent Try.prog g] (fs cs : List Value) (w : World) :
    Calls Try.prog 30 ⟨[.slice none 0 0, .func (.func g) ⟨fs⟩ ⟨cs⟩]⟩ w fun e w' => e = .returned (.slice none 0 0) ∧ Below w.heap.size w w' := by
  refine fun_enter Try.func30 rfl Try.ntmps30 rfl rfl (satW_nil w) ?_
  repeat (first | refine l_val rfl rfl (by first | exact pureEval_ok rfl  | fail) ?_ | refine l_nil ?_ | refine c_region ?_ | refine c_seq ?_ | refine x_then ?_  | fail)
  refine r_callI (ι := IdxOf (fun _ => false) []) (v := fun r => .int .i64 r.r) rfl rfl rfl (fun W hW => indexF_calls g fs cs (fun _ => false) none 0 [] W (fun i r h => by simp at h) (by simp) fun x hx => by cases hx) (fun r => ?_)
  rcases r.ok with ⟨hr, hno⟩ | ⟨i, hr, hil, hF, y, hy, hpy⟩
  · rw [hr]
    repeat (first | refine l_val rfl rfl (by first | exact pureEval_ok rfl  | fail) ?_ | refine l_nil ?_ | refine c_region ?_ | refine c_seq ?_ | refine x_then ?_ | refine c_true rfl ?_ | refine c_ret ?_ | refine x_then_ret ?_  | fail)
    exact x_ret rfl rfl (by repeat (first | exact Res.nil | (apply Res.tmp; rfl) | (apply Res.cell; rfl; exact (by repeat (first | exact List.Mem.head _ | apply List.Mem.tail)); rfl; rfl))) rfl (fun W hW => ⟨rfl, hW.below⟩)
  · simp at hy
/-! ## Taking out, where the order is drawn -/
def dlV (m : Nat) (vs : Array Value) (_ : Pi) : Value := match vs with | ⟨.slice A _ cap :: _⟩ => .slice A m cap | _ => undef
def dlO (fl : List Int) (_ : Array Value) (π : Pi) : Obj := .cells ⟨flI fl ++ restF 1 fl.length π.rest⟩ 3 (0, 0)
theorem delW {w0 : World} {D : Nat → Prop} (g : Nat) [Ent Try.prog g] (fs cs : List Value) (p : Int → Bool) (b cap : Nat) (l : List Int) (rest : List Value) (w : World) (hgr : Grow 1 l.length (flI l) cap rest) (hl : l.length ≤ 1000) (hb : w.heap[b]? = some (.cells ⟨flI l ++ rest⟩ 3 (0, 0)))
    (hp : ∀ x ∈ l, ∀ W, Same (allBut w [b]) w W → Calls Try.prog g ⟨fs ++ [.int .i64 x] ++ cs⟩ W fun e w' => e = .returned (.bool (p x)) ∧ Below W.heap.size W w') :
    Calls Try.prog 30 ⟨[.slice (some ⟨b, 0, none⟩) l.length cap, .func (.func g) ⟨fs⟩ ⟨cs⟩]⟩ w fun e W' => ∃ π, e = .returned (dlV (l.filter fun x => !p x).length ⟨[.slice (some ⟨b, 0, none⟩) l.length cap, .func (.func g) ⟨fs⟩ ⟨cs⟩]⟩ π) ∧
      ∀ m, SatW w0 D noJ ((b, .cells ⟨flI l ++ rest⟩ 3 (0, 0)) :: m) w → SatW w0 D noJ ((b, dlO (l.filter fun x => !p x) ⟨[.slice (some ⟨b, 0, none⟩) l.length cap, .func (.func g) ⟨fs⟩ ⟨cs⟩]⟩ π) :: m) W' := by
  refine (delete_calls g fs cs p b cap l rest w hgr hl hb hp).mono ?_
  rintro e W' ⟨⟨r, hr⟩, rfl, hs⟩
  obtain ⟨g1, g2⟩ := growF hr (by decide)
  refine ⟨⟨0, r, [], []⟩, rfl, fun m hm => ?_⟩
  have h := satW_frame (pre := [(b, .cells ⟨flI l ++ rest⟩ 3 (0, 0))]) (post := [(b, .cells ⟨flI (l.filter fun x => !p x) ++ r⟩ 3 (0, 0))]) hm hs
  unfold dlO
  simp only
  rw [g2]
  exact h
/-- what is left where a block is written -/
theorem sat_but {w0 W W' : World} {D : Nat → Prop} {p : Nat × Obj} {m : List (Nat × Obj)} (hW : SatW w0 D noJ (p :: m) W) (hS : Same (allBut W [p.1]) W W') : SatW w0 D noJ m W' :=
  satW_frame (pre := [p]) (post := []) hW ⟨hS, fun k h => h.1, by simp, fun q hq => (by cases hq), closed_noJ, trivial⟩
/-- of what is taken out of what may occur -/
def wtB (C : List Lk) (wt : List Int) (k : Int) (f : Nat → Int) (x : Int) : Bool := decide (k + 1 - f (frO C x.toNat) ≠ wt.getD (ix C x.toNat) 0)
theorem wtB_occ {G : Gm} {wt : List Int} {k : Nat} {l : List Int} : (castL (may G k l)).filter (fun x => !wtB G.C wt k (kn l) x) = castL (occ G wt k l) := by
  unfold occ
  refine castL_filter fun q _ => ?_
  unfold wtB
  rw [Int.toNat_natCast]
  simp only [ne_eq, decide_not, Bool.not_not]
theorem wait31_any (b : GB) (a bG bP bU bW k : Nat) (l : List Int) (A : Option Addr) (cw : Nat) (wt : List Int) (hb : GOK b) (hk : k ≤ 1000) (hl : PosN b l) (hwl : wt.length = b.C.length) (w : World)
    (hg : GIn b a w) (cG : w.cell? ⟨bG, 0, none⟩ = some (.pointer (some ⟨a, 0, none⟩))) (cP : ∀ j u, (plC k (kn l))[j]? = some u → w.cell? ⟨bP, j, none⟩ = some u) (cU : w.cell? ⟨bU, 2, none⟩ = some (.slice b.B b.C.length b.cb)) (cW : w.cell? ⟨bW, 0, none⟩ = some (.slice A wt.length cw)) (hA : At w A 1 (wt.map inE)) :
    ∀ x ∈ castL (may b.g k l), Calls Try.prog 31 ⟨[] ++ [.int .i64 x] ++ [.pointer (some ⟨bG, 0, none⟩), .pointer (some ⟨bP, 0, none⟩), .pointer (some ⟨bU, 0, none⟩), .pointer (some ⟨bW, 0, none⟩)]⟩ w fun e w' => e = .returned (.bool (wtB b.C wt k (kn l) x)) ∧ Below w.heap.size w w' := fun x hx => by
  obtain ⟨q, hq, rfl⟩ := castL_mem hx
  obtain ⟨hqn, hm⟩ := may_mem.1 hq
  obtain ⟨y, hy, h0, hf, _⟩ := mayB_iff.1 hm
  obtain ⟨i, hi, hiy⟩ := lnk_some hy
  obtain ⟨e1, e2⟩ := ix_of hi hiy
  have hn := hb.n
  have hqn : q < b.n := hqn
  have hiy : b.C[i]? = some y := hiy
  have hcal := hb.r y (List.mem_of_getElem? hiy)
  obtain ⟨c1, c2, _⟩ := hcal
  have hil := (List.getElem?_eq_some_iff.1 hiy).1
  have hv : wt[i]? = some (wt.getD i 0) := by rw [List.getD_eq_getElem?_getD, List.getElem?_eq_getElem (by omega)]; rfl
  have hc := hb.c
  have := wait31_calls b a bG bP bU bW k (kn l) A cw wt q i y (wt.getD i 0) w (by omega) hk (fun q => by have := hl.kn q; omega) (iv_some hi) hiy ⟨c1, by omega⟩ (by omega) hv (by omega) hg cG cP cU cW hA
  unfold wtB
  rw [Int.toNat_natCast]
  show Calls _ _ _ _ fun e w' => e = .returned (.bool (decide ((k : Int) + 1 - kn l (frO b.g.C q) ≠ wt.getD (ix b.g.C q) 0))) ∧ _
  rw [e1, e2]
  exact this
theorem own_cast {G : Gm} {t : Tab} {k : Nat} {l : List Int} : (castL (doD t k l)).filter (fun v => !!(castL (free G l)).contains v) = castL (own G t k l) := by
  unfold own
  refine castL_filter fun q _ => ?_
  rw [castL_contains, Bool.not_not]
/-! ## What Play answers -/
open Classical in
noncomputable def plc (n : Int) (L C : List Lk) (T : Int) (rows : List DW) (wt : List Int) : Int :=
  if rdC n L C T rows ≠ 0 then rdC n L C T rows else if wt.length = C.length ∧ ∀ i x, C[i]? = some x → x.lo ≤ wt.getD i 0 ∧ wt.getD i 0 ≤ x.hi then 0 else 1
theorem plc_a {n T : Int} {L C : List Lk} {rows : List DW} {wt : List Int} (h : rdC n L C T rows ≠ 0) : plc n L C T rows wt = rdC n L C T rows := if_pos h
theorem plc_1 {n T : Int} {L C : List Lk} {rows : List DW} {wt : List Int} (h : rdC n L C T rows = 0) (h2 : ¬ (wt.length = C.length ∧ ∀ i x, C[i]? = some x → x.lo ≤ wt.getD i 0 ∧ wt.getD i 0 ≤ x.hi)) : plc n L C T rows wt = 1 := by unfold plc; rw [if_neg (fun g => g h), if_neg h2]
theorem plc_0 {n T : Int} {L C : List Lk} {rows : List DW} {wt : List Int} (h : rdC n L C T rows = 0) (h2 : wt.length = C.length ∧ ∀ i x, C[i]? = some x → x.lo ≤ wt.getD i 0 ∧ wt.getD i 0 ≤ x.hi) : plc n L C T rows wt = 0 := by unfold plc; rw [if_neg (fun g => g h), if_pos h2]
/-- what is handed back by Play -/
structure PlI where
  b : Nat
  c : Nat
  r : List Value
def PlQ (n : Int) (L C : List Lk) (T : Int) (rows : List DW) (wt : List Int) (w : World) (e : Ending) (w' : World) : Prop :=
  Below w.heap.size w w' ∧ ((plc n L C T rows wt ≠ 0 ∧ e = .returned (.tuple ⟨[.slice none 0 0, .int .i64 (plc n L C T rows wt)]⟩)) ∨
    (plc n L C T rows wt = 0 ∧ ∃ i : PlI, e = .returned (.tuple ⟨[.slice (some ⟨i.b, 0, none⟩) (plA ⟨n.toNat, T.toNat, L, C⟩ wt (tabW rows)).length i.c, .int .i64 0]⟩) ∧ w.heap.size ≤ i.b ∧ w'.heap[i.b]? = some (.cells ⟨flI (plA ⟨n.toNat, T.toNat, L, C⟩ wt (tabW rows)) ++ i.r⟩ 3 (0, 0))))
end R24
end Go.Proofs
