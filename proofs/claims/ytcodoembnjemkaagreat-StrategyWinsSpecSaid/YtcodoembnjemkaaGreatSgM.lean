/- Games on networks: how the positions are walked through that a strategy meets. Plain Lean. -/
import Derived.Test.YtcodoembnjemkaaGreatStAcc
import Derived.Test.YtcodoembnjemkaaGreatSgL
set_option linter.unusedSectionVars false
set_option linter.unusedVariables false
set_option linter.unusedSimpArgs false
namespace Go.Kin.Sg
/-- positions that are met -/
inductive Rch (nx : Pos -> List Pos) (T : Nat) (s : Pos) : Pos -> Prop
 | start : Rch nx T s s
 | step {p y : Pos} (h : Rch nx T s p) (hk : p.1 <= T) (hy : y ∈ nx p) : Rch nx T s y
structure BS where
 q : List Pos
 seen : List Pos
/-- the state of the walk -/
structure BI (nx : Pos -> List Pos) (T : Nat) (s : Pos) (K : Nat) (b : BS) : Prop where
 met : ∀ p, p ∈ b.q ∨ p ∈ b.seen -> Rch nx T s p
 nodup : b.seen.Nodup
 le : ∀ p ∈ b.seen, p.1 <= T
 start : s ∈ b.q ∨ s ∈ b.seen ∨ T < s.1
 next : ∀ p ∈ b.seen, ∀ y ∈ nx p, y ∈ b.q ∨ y ∈ b.seen ∨ T < y.1
 len : b.q.length <= 1 + K * b.seen.length
theorem BI.init (nx : Pos -> List Pos) (T : Nat) (s : Pos) (K : Nat) : BI nx T s K ⟨[s], []⟩ where
 met := fun p hp => by
  rcases hp with hp | hp
  ·rw [List.mem_singleton.1 hp]; exact .start
  ·cases hp
 nodup := List.nodup_nil
 le := fun p hp => by cases hp
 start := .inl List.mem_cons_self
 next := fun p hp => by cases hp
 len := by simp
theorem BI.skip {nx : Pos -> List Pos} {T : Nat} {s : Pos} {K : Nat} {p : Pos} {qs seen : List Pos} (h : BI nx T s K ⟨p :: qs, seen⟩) (hp : p ∈ seen ∨ T < p.1) : BI nx T s K ⟨qs, seen⟩ where
 met := fun x hx => h.met x (hx.imp_left (List.mem_cons_of_mem _))
 nodup := h.nodup
 le := h.le
 start := by
  rcases h.start with h1 | h1
  ·rcases List.mem_cons.1 h1 with e | e
   ·subst e; exact .inr hp
   ·exact .inl e
  ·exact .inr h1
 next := fun x hx y hy => by
  rcases h.next x hx y hy with h1 | h1
  ·rcases List.mem_cons.1 h1 with e | e
   ·subst e; exact .inr hp
   ·exact .inl e
  ·exact .inr h1
 len := by have := h.len; simp only [List.length_cons] at this; simp only; omega
theorem BI.take {nx : Pos -> List Pos} {T : Nat} {s : Pos} {K : Nat} {p : Pos} {qs seen : List Pos} (h : BI nx T s K ⟨p :: qs, seen⟩) (hp : p ∉ seen) (hk : p.1 <= T) (hK : (nx p).length <= K) : BI nx T s K ⟨qs ++ nx p, seen ++ [p]⟩ where
 met := fun x hx => by
  simp only [List.mem_append, List.mem_singleton] at hx
  have hpm := h.met p (.inl List.mem_cons_self)
  rcases hx with (hx | hx) | hx | rfl
  ·exact h.met x (.inl (List.mem_cons_of_mem _ hx))
  ·exact .step hpm hk hx
  ·exact h.met x (.inr hx)
  ·exact hpm
 nodup := by
  show (seen ++ [p]).Nodup
  rw [List.nodup_append]
  refine ⟨h.nodup, by simp, fun a ha b hb e => ?_⟩
  rw [List.mem_singleton.1 hb] at e
  subst e
  exact hp ha
 le := fun x hx => by
  rcases List.mem_append.1 hx with hx | hx
  ·exact h.le x hx
  ·rw [List.mem_singleton.1 hx]; exact hk
 start := by
  simp only [List.mem_append, List.mem_singleton]
  rcases h.start with h1 | h1 | h1
  ·rcases List.mem_cons.1 h1 with e | e
   ·exact .inr (.inl (.inr e))
   ·exact .inl (.inl e)
  ·exact .inr (.inl (.inl h1))
  ·exact .inr (.inr h1)
 next := fun x hx y hy => by
  simp only [List.mem_append, List.mem_singleton] at hx ⊢
  rcases hx with hx | rfl
  ·rcases h.next x hx y hy with h1 | h1 | h1
   ·rcases List.mem_cons.1 h1 with e | e
    ·exact .inr (.inl (.inr e))
    ·exact .inl (.inl e)
   ·exact .inr (.inl (.inl h1))
   ·exact .inr (.inr h1)
  ·exact .inl (.inr hy)
 len := by
  have := h.len
  simp only [List.length_cons, List.length_append, List.length_nil] at this ⊢
  rw [Nat.mul_add]
  omega
theorem BI.all {nx : Pos -> List Pos} {T : Nat} {s : Pos} {K : Nat} {seen : List Pos} (h : BI nx T s K ⟨[], seen⟩) : ∀ {p : Pos}, Rch nx T s p -> p.1 <= T -> p ∈ seen := by
 intro p hp
 induction hp with
 | start =>
  intro hk
  rcases h.start with h1 | h1 | h1
  ·cases h1
  ·exact h1
  ·omega
 | step hr hk hy ih =>
  intro hk2
  rcases h.next _ (ih hk) _ hy with h1 | h1 | h1
  ·cases h1
  ·exact h1
  ·omega
/-- it ends -/
def bmu (K T : Nat) (q : List Pos) : Nat := (q.map fun p => (K + 1) ^ (T + 1 - p.1)).sum
theorem bmu_cons {K T : Nat} {p : Pos} {q : List Pos} : bmu K T (p :: q) = (K + 1) ^ (T + 1 - p.1) + bmu K T q := by unfold bmu; rw [List.map_cons, List.sum_cons]
theorem bmu_append {K T : Nat} {q r : List Pos} : bmu K T (q ++ r) = bmu K T q + bmu K T r := by unfold bmu; rw [List.map_append, List.sum_append]
theorem bmu_skip {K T : Nat} {p : Pos} {q : List Pos} : bmu K T q < bmu K T (p :: q) := by
 rw [bmu_cons]
 have : 0 < (K + 1) ^ (T + 1 - p.1) := Nat.pow_pos (by omega)
 omega
theorem bmu_le {K T k : Nat} : ∀ {r : List Pos}, (∀ y ∈ r, y.1 = k) -> bmu K T r = r.length * (K + 1) ^ (T + 1 - k)
 | [], _ => by simp [bmu]
 | y :: r, h => by rw [bmu_cons, h y List.mem_cons_self, bmu_le fun z hz => h z (List.mem_cons_of_mem _ hz), List.length_cons, Nat.add_mul]; omega
theorem bmu_take {K T : Nat} {p : Pos} {q r : List Pos} (hk : p.1 <= T) (hr : ∀ y ∈ r, y.1 = p.1 + 1) (hK : r.length <= K) : bmu K T (q ++ r) < bmu K T (p :: q) := by
 rw [bmu_append, bmu_cons, bmu_le hr, show T + 1 - p.1 = (T + 1 - (p.1 + 1)) + 1 by omega, Nat.pow_succ]
 have h1 : 0 < (K + 1) ^ (T + 1 - (p.1 + 1)) := Nat.pow_pos (by omega)
 have h2 : r.length * (K + 1) ^ (T + 1 - (p.1 + 1)) <= K * (K + 1) ^ (T + 1 - (p.1 + 1)) := Nat.mul_le_mul_right _ hK
 have h3 : (K + 1) ^ (T + 1 - (p.1 + 1)) * (K + 1) = K * (K + 1) ^ (T + 1 - (p.1 + 1)) + (K + 1) ^ (T + 1 - (p.1 + 1)) := by rw [Nat.mul_comm, Nat.add_mul, Nat.one_mul]
 omega
/-! ## How many there are -/
theorem nodup_lt : ∀ {m : Nat} {l : List Nat}, l.Nodup -> (∀ x ∈ l, x < m) -> l.length <= m
 | 0, l, _, h => by
  cases l with
  | nil => simp
  | cons x l => exact absurd (h x List.mem_cons_self) (by omega)
 | m + 1, l, hn, h => by
  have h1 : (l.erase m).length <= m := nodup_lt (hn.erase m) fun x hx => by
   have h2 := h x (List.mem_of_mem_erase hx)
   have h3 := (hn.mem_erase_iff.1 hx).1
   omega
  rw [List.length_erase] at h1
  split at h1 <;> omega
theorem nodup_le {α : Type} {f : α -> Nat} {m : Nat} {l : List α} (hn : l.Nodup) (hf : ∀ x ∈ l, ∀ y ∈ l, f x = f y -> x = y) (h : ∀ x ∈ l, f x < m) : l.length <= m := by
 have : (l.map f).Nodup := by
  unfold List.Nodup at hn ⊢
  rw [List.pairwise_map]
  exact hn.imp_of_mem fun ha hb hne e => hne (hf _ ha _ hb e)
 have h2 := nodup_lt this fun x hx => by
  obtain ⟨y, hy, rfl⟩ := List.mem_map.1 hx
  exact h y hy
 rwa [List.length_map] at h2
/-- a list of small numbers, as one number -/
def code (B : Nat) : List Int -> Nat
 | [] => 0
 | x :: l => x.toNat + B * code B l
theorem code_lt {B : Nat} (hB : 0 < B) : ∀ {l : List Int}, (∀ x ∈ l, 0 <= x /\ x < B) -> code B l < B ^ l.length
 | [], _ => by simp [code]
 | x :: l, h => by
  have h1 := code_lt hB fun y hy => h y (List.mem_cons_of_mem _ hy)
  have h2 := h x List.mem_cons_self
  have h3 : B * (code B l + 1) <= B * B ^ l.length := Nat.mul_le_mul_left _ h1
  rw [List.length_cons, Nat.pow_succ, Nat.mul_comm (B ^ l.length)]
  show x.toNat + B * code B l < _
  rw [Nat.mul_add] at h3
  omega
theorem code_inj {B : Nat} : ∀ {l m : List Int}, l.length = m.length -> (∀ x ∈ l, 0 <= x /\ x < B) -> (∀ x ∈ m, 0 <= x /\ x < B) -> code B l = code B m -> l = m
 | [], [], _, _, _, _ => rfl
 | [], _ :: _, h, _, _, _ => by cases h
 | _ :: _, [], h, _, _, _ => by cases h
 | x :: l, y :: m, hlen, hl, hm, h => by
  have h1 := hl x List.mem_cons_self
  have h2 := hm y List.mem_cons_self
  have h : x.toNat + B * code B l = y.toNat + B * code B m := h
  have e1 : x.toNat = y.toNat := by
   have := congrArg (· % B) h
   simp only [Nat.add_mul_mod_self_left] at this
   rwa [Nat.mod_eq_of_lt (by omega), Nat.mod_eq_of_lt (by omega)] at this
  have e2 : code B l = code B m := Nat.eq_of_mul_eq_mul_left (show 0 < B by omega) (by omega)
  rw [show x = y by omega, code_inj (by simpa using hlen) (fun z hz => hl z (List.mem_cons_of_mem _ hz)) (fun z hz => hm z (List.mem_cons_of_mem _ hz)) e2]
/-- positions of so many points and ticks -/
theorem pos_le {n T : Nat} {l : List Pos} (hn : l.Nodup) (h : ∀ p ∈ l, p.1 <= T /\ p.2.length = n /\ ∀ x ∈ p.2, 0 <= x /\ x <= T + 1) : l.length <= (T + 1) * (T + 2) ^ n := by
 refine nodup_le (f := fun p => p.1 + (T + 1) * code (T + 2) p.2) hn (fun x hx y hy e => ?_) fun x hx => ?_
 ·obtain ⟨a1, a2, a3⟩ := h x hx
  obtain ⟨b1, b2, b3⟩ := h y hy
  have e : x.1 + (T + 1) * code (T + 2) x.2 = y.1 + (T + 1) * code (T + 2) y.2 := e
  have e1 : x.1 = y.1 := by
   have := congrArg (· % (T + 1)) e
   simp only [Nat.add_mul_mod_self_left] at this
   rwa [Nat.mod_eq_of_lt (by omega), Nat.mod_eq_of_lt (by omega)] at this
  have e2 : code (T + 2) x.2 = code (T + 2) y.2 := Nat.eq_of_mul_eq_mul_left (show 0 < T + 1 by omega) (by omega)
  have e3 := code_inj (B := T + 2) (by omega) (fun z hz => by have := a3 z hz; omega) (fun z hz => by have := b3 z hz; omega) e2
  exact Prod.ext e1 e3
 ·obtain ⟨a1, a2, a3⟩ := h x hx
  have h1 := code_lt (B := T + 2) (by omega) (l := x.2) fun z hz => by have := a3 z hz; omega
  rw [a2] at h1
  have h3 : (T + 1) * (code (T + 2) x.2 + 1) <= (T + 1) * (T + 2) ^ n := Nat.mul_le_mul_left _ h1
  show x.1 + (T + 1) * code (T + 2) x.2 < _
  rw [Nat.mul_add] at h3
  omega
end Go.Kin.Sg

namespace Go.Proofs
open Go.RowKit Go.Kin Go.Kin.St Go.Kin.Ct Go.Kin.Sg
namespace R24
theorem perm_by {β : Type} (Ls : List (List β)) {a b : List β} (is js : List Nat) (h : is.isPerm js = true) (e1 : (is.flatMap fun i => Ls.getD i []) = a) (e2 : (js.flatMap fun i => Ls.getD i []) = b) : a.Perm b := by
 rw [<- e1, <- e2]
 exact (List.isPerm_iff.1 h).flatMap_right _
section
variable {P : Program} {N : Nat} {c : Cx} {Q : Exit -> Act -> World -> Prop} {env : List (Nat × Value)} {L : List Oper} {kt : Kt} {rd : List (Nat × Nat)} {tl : List (Nat × Obj)} {fr : OM}
theorem e_nilP {k : Nat} {mem' : List (Nat × Obj)} (hp : (flatO fr ++ tl).Perm mem') (kk : RunX N c Q .normal env mem') : RunE P N c L kt rd tl [] k Q env fr := .mk fun β a ha _ W hW => kk.run a W ha (hW.perm hp)
end
/-- nothing is decided -/
theorem add0_calls (bs bg : Nat) (k : Int) (f : Nat -> Int) (w : World) : Calls Tryz.prog 67 ⟨[] ++ [.agg ⟨plC k f⟩, .slice none 0 0] ++ [.pointer (some ⟨bs, 0, none⟩), .pointer (some ⟨bg, 0, none⟩)]⟩ w fun e w' => e = .returned (.tuple ⟨[]⟩) /\ Below w.heap.size w w' := by
 refine fun_enter Tryz.func67 rfl Tryz.ntmps67 rfl rfl (satW_nil w) ?_
 repeat (first|refine l_val rfl rfl (by first|exact pureEval_ok rfl|fail) ?_|refine l_nil ?_|refine c_region ?_|refine c_seq ?_|refine x_then ?_|refine r_box rfl rfl rfl rfl (fun _ => ?_)|refine c_false rfl ?_|refine c_skip ?_|fail)
 exact x_end rfl rfl (by repeat (first|exact .nil|(apply Res.tmp; rfl)|(apply Res.cell; rfl; exact (by repeat constructor); rfl; rfl))) rfl (fun W hW => ⟨rfl, hW.below⟩)
/-! ## Moves, in a region that draws its order -/
def cbP (ps must : List Nat) (π : Pi) : CB := ⟨nn π 0, nn π 1, nn π 2, nn π 3, nn π 4, capF 1 ps.length (rr π 0), restF 1 ps.length (rr π 0), nn π 5, capF 1 must.length (rr π 1), restF 1 must.length (rr π 1)⟩
def mvV (ps must : List Nat) (_ : Array Value) (π : Pi) : Value := (cbP ps must π).v
def mvO (k : Int) (f : Nat -> Int) (la : Int) (ps must : List Nat) (_ : Array Value) (π : Pi) : List (Nat × Obj) := (cbP ps must π).ms k f la ps must
theorem gM_le {α : Type} {f : α -> List Value} {T : TypeId} {l : List α} {b : Nat} {r : List Value} : (gM f T l b r).length <= 1 := by cases l <;> simp [gM]
theorem mvO_len {k : Int} {f : Nat -> Int} {la : Int} {ps must : List Nat} {vs : Array Value} {π : Pi} : (mvO k f la ps must vs π).length <= 6 := by
 unfold mvO CB.ms bx4
 have h1 := gM_le (f := nE) (T := 3) (l := ps) (b := (cbP ps must π).ba) (r := (cbP ps must π).ra)
 have h2 := gM_le (f := nE) (T := 3) (l := must) (b := (cbP ps must π).bm) (r := (cbP ps must π).rm)
 simp only [List.length_append, List.length_cons, List.length_nil]
 omega
theorem cbP_ok {ps must : List Nat} {π : Pi} (h1 : ps.length <= 6) (h2 : must.length <= 6) : (cbP ps must π).OK ps must := ⟨gF_ok h1, gF_ok h2⟩
theorem movQ_L {k : Int} {f : Nat -> Int} {la : Int} {ps must : List Nat} {W W' : World} {e : Ending} (vs : Array Value) (h : MovQ k f la ps must W e W') : ∃ π, e = .returned (mvV ps must vs π) /\ ∀ {w0 : World} {D : Nat -> Prop} {J : (Nat -> Prop) -> World -> Prop} (l : List (Nat × Obj)), SatW w0 D J l W -> SatW w0 D J (mvO k f la ps must vs π ++ l) W' := by
 obtain ⟨c, ⟨g1, g2⟩, rfl, hb, hn, hm⟩ := h
 obtain ⟨b4, b5, b6, b7, ba, ca, ra, bm, cm, rm⟩ := c
 obtain ⟨e1, e2⟩ := gF (b := ba) g1
 obtain ⟨e3, e4⟩ := gF (b := bm) g2
 refine ⟨⟨0, [], [b4, b5, b6, b7, ba, bm], [ra, rm]⟩, rfl, fun l hl => ?_⟩
 have e5 : mvO k f la ps must vs ⟨0, [], [b4, b5, b6, b7, ba, bm], [ra, rm]⟩ = CB.ms ⟨b4, b5, b6, b7, ba, ca, ra, bm, cm, rm⟩ k f la ps must := by
  show bx4 b4 b5 b6 b7 k f la (gSl ps ba (capF 1 ps.length ra)) (gSl must bm (capF 1 must.length rm)) ++ (gM nE 3 ps ba (restF 1 ps.length ra) ++ gM nE 3 must bm (restF 1 must.length rm)) = _
  rw [e1, e2, e3, e4]; rfl
 rw [e5]
 exact satW_L hl hb hn hm
/-! ## What a step leaves -/
def plE (p : Pos) : List Value := plC p.1 (kn p.2)
theorem plE_rows (l : List Pos) : (l.map plE).flatten.length = l.length * 7 := by
 induction l with
 | nil => rfl
 | cons x l ih => rw [List.map_cons, List.flatten_cons, List.length_append, ih, List.length_cons]; show 7 + _ = _; omega
def DR.ms (r : DR) : List (Nat × Obj) := r.knM ++ r.doM
def rowsM (rs : List DR) : List (Nat × Obj) := rs.flatMap DR.ms
def DR.dec (r : DR) : Dec := decN r.k r.l r.d
/-- where the next positions lie -/
structure QN where
 b : Nat
 c : Nat
 r : List Value
/-- what a step hands back and leaves -/
structure SI where
 es : Mp
 s : SL
 rs : List DR
 q : QN
def SI.OK (b : GB) (rows0 : List DR) (ad : List Dec) (nx : List Pos) (i : SI) : Prop :=
 (∀ x ∈ i.es.es, EntV b x) /\ i.s.rows = rows0 ++ i.rs /\ i.s.OK /\ i.rs.map DR.dec = ad /\ (∀ r ∈ i.rs, r.OK) /\ gOK plE 7 nx i.q.c i.q.r
def SI.post (b : GB) (bs : Nat) (nx : List Pos) (i : SI) : List (Nat × Obj) := ((b.m, i.es.o) :: i.s.m bs) ++ (rowsM i.rs ++ gM plE 54 nx i.q.b i.q.r)
/-- the contract of a step -/
def StepC (b : GB) (a f bgs bs bg : Nat) (ad : Pos -> List Dec) (nx : Pos -> List Pos) (p : Pos) : Prop := ∀ (es : Mp) (s : SL) (w : World),
 (∀ x ∈ es.es, EntV b x) -> s.OK -> s.rows.length <= 10000000 -> (((b.m, es.o) :: s.m bs).map (·.1)).Nodup -> (∀ p ∈ (b.m, es.o) :: s.m bs, w.heap[p.1]? = some p.2) ->
 b.In a w (allBut w (((b.m, es.o) :: s.m bs).map (·.1))) -> Ext w (allBut w (((b.m, es.o) :: s.m bs).map (·.1))) bg 0 [.pointer (some ⟨a, 0, none⟩)] -> Ext w (allBut w (((b.m, es.o) :: s.m bs).map (·.1))) bgs 0 [.pointer (some ⟨a, 0, none⟩)] ->
 Calls Tryz.prog f ⟨[] ++ [.agg ⟨plE p⟩, .func (.func 67) ⟨[]⟩ ⟨[.pointer (some ⟨bs, 0, none⟩), .pointer (some ⟨bg, 0, none⟩)]⟩] ++ [.pointer (some ⟨bgs, 0, none⟩)]⟩ w
  (FrQ ((b.m, es.o) :: s.m bs) (fun i : { i : SI // i.OK b s.rows (ad p) (nx p) } => gSl (nx p) i.1.q.b i.1.q.c) (fun i => i.1.post b bs (nx p)) w)
theorem _root_.Go.Kin.SatW.allButP {w0 W : World} {D : Nat -> Prop} {J : (Nat -> Prop) -> World -> Prop} {mem pre mem0 : List (Nat × Obj)} (h : SatW w0 D J mem W) (hp : mem.Perm (pre ++ mem0)) : ∀ k, D k -> allBut W (pre.map (·.1)) k := fun k hk => by
 have h1 := h.perm hp
 refine ⟨Nat.lt_of_lt_of_le (h.dom k hk) h.same.size, fun hm => ?_⟩
 obtain ⟨p, hpp, e⟩ := List.mem_map.1 hm
 exact (h1.own p (List.mem_append_left _ hpp)).1 (e ▸ hk)
structure RS where
 i : Nat
 es : Mp
 s : SL
 rs : List DR
 q : QN
section
variable {β : Type}
theorem perm3 {x y z : β} {D E : List β} : (x :: y :: z :: (D ++ E)).Perm (z :: (D ++ (x :: y :: E))) := perm_by [[x], [y], [z], D, E] [0, 1, 2, 3, 4] [2, 3, 0, 1, 4] rfl (by simp) (by simp)
theorem perm4 {x y u z : β} {D E : List β} : (x :: y :: u :: z :: (D ++ E)).Perm (z :: (D ++ (x :: y :: u :: E))) := perm_by [[x], [y], [u], [z], D, E] [0, 1, 2, 3, 4, 5] [3, 4, 0, 1, 2, 5] rfl (by simp) (by simp)
theorem permG {D R G T : List β} : (D ++ (R ++ (G ++ T))).Perm (G ++ (D ++ (R ++ T))) := perm_by [D, R, G, T] [0, 1, 2, 3] [2, 0, 1, 3] rfl (by simp) (by simp)
theorem permT {D R G T : List β} : (D ++ (R ++ (G ++ T))).Perm (T ++ (D ++ (R ++ G))) := perm_by [D, R, G, T] [0, 1, 2, 3] [3, 0, 1, 2] rfl (by simp) (by simp)
theorem permA {D R G T : List β} {x y : β} : ((T ++ [x]) ++ ((D ++ [y]) ++ (R ++ G))).Perm (D ++ ((R ++ [x, y]) ++ (G ++ T))) := perm_by [D, R, G, T, [x], [y]] [3, 4, 0, 5, 1, 2] [0, 1, 4, 5, 2, 3] rfl (by simp) (by simp)
end
theorem rowsM_snoc {rs : List DR} {r : DR} : rowsM (rs ++ [r]) = rowsM rs ++ [(r.bk, .cells ⟨flI r.l ++ r.rk⟩ 3 (0, 0)), (r.bd, .cells ⟨(r.d.map nE).flatten ++ r.rd⟩ 3 (0, 0))] := by
 unfold rowsM DR.ms DR.knM DR.doM
 rw [List.flatMap_append]
 simp
theorem plE_len {p : Pos} : (plE p).length = 7 := plC_len
end R24
end Go.Proofs
