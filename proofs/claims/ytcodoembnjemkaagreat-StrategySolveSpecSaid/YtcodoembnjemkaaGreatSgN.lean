/- Games on networks: how the positions are walked through that a strategy meets. Plain Lean. -/
import Derived.Test.YtcodoembnjemkaaGreatStAcc
import Derived.Test.YtcodoembnjemkaaGreatSgL
set_option linter.unusedSectionVars false
set_option linter.unusedVariables false
set_option linter.unusedSimpArgs false
namespace Go.Kin.Sg
/-- positions that are met -/
inductive Rch (nx : Pos -> List Pos) (T : Nat) (s : Pos) : Pos -> Prop
 | start : Rch nx T s s
 | step {p y : Pos} (h : Rch nx T s p) (hk : p.1 <= T) (hy : y ∈ nx p) : Rch nx T s y
structure BS where
 q : List Pos
 seen : List Pos
/-- the state of the walk -/
structure BI (nx : Pos -> List Pos) (T : Nat) (s : Pos) (K : Nat) (b : BS) : Prop where
 met : ∀ p, p ∈ b.q ∨ p ∈ b.seen -> Rch nx T s p
 nodup : b.seen.Nodup
 le : ∀ p ∈ b.seen, p.1 <= T
 start : s ∈ b.q ∨ s ∈ b.seen ∨ T < s.1
 next : ∀ p ∈ b.seen, ∀ y ∈ nx p, y ∈ b.q ∨ y ∈ b.seen ∨ T < y.1
 len : b.q.length <= 1 + K * b.seen.length
theorem BI.init (nx : Pos -> List Pos) (T : Nat) (s : Pos) (K : Nat) : BI nx T s K ⟨[s], []⟩ where
 met := fun p hp => by
  rcases hp with hp | hp
  ·rw [List.mem_singleton.1 hp]; exact .start
  ·cases hp
 nodup := List.nodup_nil
 le := fun p hp => by cases hp
 start := .inl List.mem_cons_self
 next := fun p hp => by cases hp
 len := by simp
theorem BI.skip {nx : Pos -> List Pos} {T : Nat} {s : Pos} {K : Nat} {p : Pos} {qs seen : List Pos} (h : BI nx T s K ⟨p :: qs, seen⟩) (hp : p ∈ seen ∨ T < p.1) : BI nx T s K ⟨qs, seen⟩ where
 met := fun x hx => h.met x (hx.imp_left (List.mem_cons_of_mem _))
 nodup := h.nodup
 le := h.le
 start := by
  rcases h.start with h1 | h1
  ·rcases List.mem_cons.1 h1 with e | e
   ·subst e; exact .inr hp
   ·exact .inl e
  ·exact .inr h1
 next := fun x hx y hy => by
  rcases h.next x hx y hy with h1 | h1
  ·rcases List.mem_cons.1 h1 with e | e
   ·subst e; exact .inr hp
   ·exact .inl e
  ·exact .inr h1
 len := by have := h.len; simp only [List.length_cons] at this; simp only; omega
theorem BI.take {nx : Pos -> List Pos} {T : Nat} {s : Pos} {K : Nat} {p : Pos} {qs seen : List Pos} (h : BI nx T s K ⟨p :: qs, seen⟩) (hp : p ∉ seen) (hk : p.1 <= T) (hK : (nx p).length <= K) : BI nx T s K ⟨qs ++ nx p, seen ++ [p]⟩ where
 met := fun x hx => by
  simp only [List.mem_append, List.mem_singleton] at hx
  have hpm := h.met p (.inl List.mem_cons_self)
  rcases hx with (hx | hx) | hx | rfl
  ·exact h.met x (.inl (List.mem_cons_of_mem _ hx))
  ·exact .step hpm hk hx
  ·exact h.met x (.inr hx)
  ·exact hpm
 nodup := by
  show (seen ++ [p]).Nodup
  rw [List.nodup_append]
  refine ⟨h.nodup, by simp, fun a ha b hb e => ?_⟩
  rw [List.mem_singleton.1 hb] at e
  subst e
  exact hp ha
 le := fun x hx => by
  rcases List.mem_append.1 hx with hx | hx
  ·exact h.le x hx
  ·rw [List.mem_singleton.1 hx]; exact hk
 start := by
  simp only [List.mem_append, List.mem_singleton]
  rcases h.start with h1 | h1 | h1
  ·rcases List.mem_cons.1 h1 with e | e
   ·exact .inr (.inl (.inr e))
   ·exact .inl (.inl e)
  ·exact .inr (.inl (.inl h1))
  ·exact .inr (.inr h1)
 next := fun x hx y hy => by
  simp only [List.mem_append, List.mem_singleton] at hx ⊢
  rcases hx with hx | rfl
  ·rcases h.next x hx y hy with h1 | h1 | h1
   ·rcases List.mem_cons.1 h1 with e | e
    ·exact .inr (.inl (.inr e))
    ·exact .inl (.inl e)
   ·exact .inr (.inl (.inl h1))
   ·exact .inr (.inr h1)
  ·exact .inl (.inr hy)
 len := by
  have := h.len
  simp only [List.length_cons, List.length_append, List.length_nil] at this ⊢
  rw [Nat.mul_add]
  omega
theorem BI.all {nx : Pos -> List Pos} {T : Nat} {s : Pos} {K : Nat} {seen : List Pos} (h : BI nx T s K ⟨[], seen⟩) : ∀ {p : Pos}, Rch nx T s p -> p.1 <= T -> p ∈ seen := by
 intro p hp
 induction hp with
 | start =>
  intro hk
  rcases h.start with h1 | h1 | h1
  ·cases h1
  ·exact h1
  ·omega
 | step hr hk hy ih =>
  intro hk2
  rcases h.next _ (ih hk) _ hy with h1 | h1 | h1
  ·cases h1
  ·exact h1
  ·omega
/-- it ends -/
def bmu (K T : Nat) (q : List Pos) : Nat := (q.map fun p => (K + 1) ^ (T + 1 - p.1)).sum
theorem bmu_cons {K T : Nat} {p : Pos} {q : List Pos} : bmu K T (p :: q) = (K + 1) ^ (T + 1 - p.1) + bmu K T q := by unfold bmu; rw [List.map_cons, List.sum_cons]
theorem bmu_append {K T : Nat} {q r : List Pos} : bmu K T (q ++ r) = bmu K T q + bmu K T r := by unfold bmu; rw [List.map_append, List.sum_append]
theorem bmu_skip {K T : Nat} {p : Pos} {q : List Pos} : bmu K T q < bmu K T (p :: q) := by
 rw [bmu_cons]
 have : 0 < (K + 1) ^ (T + 1 - p.1) := Nat.pow_pos (by omega)
 omega
theorem bmu_le {K T k : Nat} : ∀ {r : List Pos}, (∀ y ∈ r, y.1 = k) -> bmu K T r = r.length * (K + 1) ^ (T + 1 - k)
 | [], _ => by simp [bmu]
 | y :: r, h => by rw [bmu_cons, h y List.mem_cons_self, bmu_le fun z hz => h z (List.mem_cons_of_mem _ hz), List.length_cons, Nat.add_mul]; omega
theorem bmu_take {K T : Nat} {p : Pos} {q r : List Pos} (hk : p.1 <= T) (hr : ∀ y ∈ r, y.1 = p.1 + 1) (hK : r.length <= K) : bmu K T (q ++ r) < bmu K T (p :: q) := by
 rw [bmu_append, bmu_cons, bmu_le hr, show T + 1 - p.1 = (T + 1 - (p.1 + 1)) + 1 by omega, Nat.pow_succ]
 have h1 : 0 < (K + 1) ^ (T + 1 - (p.1 + 1)) := Nat.pow_pos (by omega)
 have h2 : r.length * (K + 1) ^ (T + 1 - (p.1 + 1)) <= K * (K + 1) ^ (T + 1 - (p.1 + 1)) := Nat.mul_le_mul_right _ hK
 have h3 : (K + 1) ^ (T + 1 - (p.1 + 1)) * (K + 1) = K * (K + 1) ^ (T + 1 - (p.1 + 1)) + (K + 1) ^ (T + 1 - (p.1 + 1)) := by rw [Nat.mul_comm, Nat.add_mul, Nat.one_mul]
 omega
/-! ## How many there are -/
theorem nodup_lt : ∀ {m : Nat} {l : List Nat}, l.Nodup -> (∀ x ∈ l, x < m) -> l.length <= m
 | 0, l, _, h => by
  cases l with
  | nil => simp
  | cons x l => exact absurd (h x List.mem_cons_self) (by omega)
 | m + 1, l, hn, h => by
  have h1 : (l.erase m).length <= m := nodup_lt (hn.erase m) fun x hx => by
   have h2 := h x (List.mem_of_mem_erase hx)
   have h3 := (hn.mem_erase_iff.1 hx).1
   omega
  rw [List.length_erase] at h1
  split at h1 <;> omega
theorem nodup_le {α : Type} {f : α -> Nat} {m : Nat} {l : List α} (hn : l.Nodup) (hf : ∀ x ∈ l, ∀ y ∈ l, f x = f y -> x = y) (h : ∀ x ∈ l, f x < m) : l.length <= m := by
 have : (l.map f).Nodup := by
  unfold List.Nodup at hn ⊢
  rw [List.pairwise_map]
  exact hn.imp_of_mem fun ha hb hne e => hne (hf _ ha _ hb e)
 have h2 := nodup_lt this fun x hx => by
  obtain ⟨y, hy, rfl⟩ := List.mem_map.1 hx
  exact h y hy
 rwa [List.length_map] at h2
/-- a list of small numbers, as one number -/
def code (B : Nat) : List Int -> Nat
 | [] => 0
 | x :: l => x.toNat + B * code B l
theorem code_lt {B : Nat} (hB : 0 < B) : ∀ {l : List Int}, (∀ x ∈ l, 0 <= x /\ x < B) -> code B l < B ^ l.length
 | [], _ => by simp [code]
 | x :: l, h => by
  have h1 := code_lt hB fun y hy => h y (List.mem_cons_of_mem _ hy)
  have h2 := h x List.mem_cons_self
  have h3 : B * (code B l + 1) <= B * B ^ l.length := Nat.mul_le_mul_left _ h1
  rw [List.length_cons, Nat.pow_succ, Nat.mul_comm (B ^ l.length)]
  show x.toNat + B * code B l < _
  rw [Nat.mul_add] at h3
  omega
theorem code_inj {B : Nat} : ∀ {l m : List Int}, l.length = m.length -> (∀ x ∈ l, 0 <= x /\ x < B) -> (∀ x ∈ m, 0 <= x /\ x < B) -> code B l = code B m -> l = m
 | [], [], _, _, _, _ => rfl
 | [], _ :: _, h, _, _, _ => by cases h
 | _ :: _, [], h, _, _, _ => by cases h
 | x :: l, y :: m, hlen, hl, hm, h => by
  have h1 := hl x List.mem_cons_self
  have h2 := hm y List.mem_cons_self
  have h : x.toNat + B * code B l = y.toNat + B * code B m := h
  have e1 : x.toNat = y.toNat := by
   have := congrArg (· % B) h
   simp only [Nat.add_mul_mod_self_left] at this
   rwa [Nat.mod_eq_of_lt (by omega), Nat.mod_eq_of_lt (by omega)] at this
  have e2 : code B l = code B m := Nat.eq_of_mul_eq_mul_left (show 0 < B by omega) (by omega)
  rw [show x = y by omega, code_inj (by simpa using hlen) (fun z hz => hl z (List.mem_cons_of_mem _ hz)) (fun z hz => hm z (List.mem_cons_of_mem _ hz)) e2]
/-- positions of so many points and ticks -/
theorem pos_le {n T : Nat} {l : List Pos} (hn : l.Nodup) (h : ∀ p ∈ l, p.1 <= T /\ p.2.length = n /\ ∀ x ∈ p.2, 0 <= x /\ x <= T + 1) : l.length <= (T + 1) * (T + 2) ^ n := by
 refine nodup_le (f := fun p => p.1 + (T + 1) * code (T + 2) p.2) hn (fun x hx y hy e => ?_) fun x hx => ?_
 ·obtain ⟨a1, a2, a3⟩ := h x hx
  obtain ⟨b1, b2, b3⟩ := h y hy
  have e : x.1 + (T + 1) * code (T + 2) x.2 = y.1 + (T + 1) * code (T + 2) y.2 := e
  have e1 : x.1 = y.1 := by
   have := congrArg (· % (T + 1)) e
   simp only [Nat.add_mul_mod_self_left] at this
   rwa [Nat.mod_eq_of_lt (by omega), Nat.mod_eq_of_lt (by omega)] at this
  have e2 : code (T + 2) x.2 = code (T + 2) y.2 := Nat.eq_of_mul_eq_mul_left (show 0 < T + 1 by omega) (by omega)
  have e3 := code_inj (B := T + 2) (by omega) (fun z hz => by have := a3 z hz; omega) (fun z hz => by have := b3 z hz; omega) e2
  exact Prod.ext e1 e3
 ·obtain ⟨a1, a2, a3⟩ := h x hx
  have h1 := code_lt (B := T + 2) (by omega) (l := x.2) fun z hz => by have := a3 z hz; omega
  rw [a2] at h1
  have h3 : (T + 1) * (code (T + 2) x.2 + 1) <= (T + 1) * (T + 2) ^ n := Nat.mul_le_mul_left _ h1
  show x.1 + (T + 1) * code (T + 2) x.2 < _
  rw [Nat.mul_add] at h3
  omega
end Go.Kin.Sg

namespace Go.Proofs
open Go.RowKit Go.Kin Go.Kin.St Go.Kin.Ct Go.Kin.Sg
namespace R24
theorem perm_by {β : Type} (Ls : List (List β)) {a b : List β} (is js : List Nat) (h : is.isPerm js = true) (e1 : (is.flatMap fun i => Ls.getD i []) = a) (e2 : (js.flatMap fun i => Ls.getD i []) = b) : a.Perm b := by
 rw [<- e1, <- e2]
 exact (List.isPerm_iff.1 h).flatMap_right _
section
variable {P : Program} {N : Nat} {c : Cx} {Q : Exit -> Act -> World -> Prop} {env : List (Nat × Value)} {L : List Oper} {kt : Kt} {rd : List (Nat × Nat)} {tl : List (Nat × Obj)} {fr : OM}
theorem e_nilP {k : Nat} {mem' : List (Nat × Obj)} (hp : (flatO fr ++ tl).Perm mem') (kk : RunX N c Q .normal env mem') : RunE P N c L kt rd tl [] k Q env fr := .mk fun β a ha _ W hW => kk.run a W ha (hW.perm hp)
end
/-- nothing is decided -/
theorem add0_calls (bs bg : Nat) (k : Int) (f : Nat -> Int) (w : World) : Calls Tryz.prog 67 ⟨[] ++ [.agg ⟨plC k f⟩, .slice none 0 0] ++ [.pointer (some ⟨bs, 0, none⟩), .pointer (some ⟨bg, 0, none⟩)]⟩ w fun e w' => e = .returned (.tuple ⟨[]⟩) /\ Below w.heap.size w w' := by
 refine fEn Tryz.func67 rfl Tryz.ntmps67 rfl rfl (sWn w) ?_
 repeat (first|refine lVa rfl rfl (by first|exact pEv rfl|fail) ?_|refine lNi ?_|refine cRg ?_|refine cSq ?_|refine xTh ?_|refine r_box rfl rfl rfl rfl (fun _ => ?_)|refine c_false rfl ?_|refine cSk ?_|fail)
 exact x_end rfl rfl (by repeat constructor) rfl (fun W hW => ⟨rfl, hW.below⟩)
/-! ## Moves, in a region that draws its order -/
def cbP (ps must : List Nat) (π : Pi) : CB := ⟨nn π 0, nn π 1, nn π 2, nn π 3, nn π 4, capF 1 ps.length (rr π 0), restF 1 ps.length (rr π 0), nn π 5, capF 1 must.length (rr π 1), restF 1 must.length (rr π 1)⟩
def mvV (ps must : List Nat) (_ : Array Value) (π : Pi) : Value := (cbP ps must π).v
def mvO (k : Int) (f : Nat -> Int) (la : Int) (ps must : List Nat) (_ : Array Value) (π : Pi) : List (Nat × Obj) := (cbP ps must π).ms k f la ps must
theorem gM_le {α : Type} {f : α -> List Value} {T : TypeId} {l : List α} {b : Nat} {r : List Value} : (gM f T l b r).length <= 1 := by cases l <;> simp [gM]
theorem mvO_len {k : Int} {f : Nat -> Int} {la : Int} {ps must : List Nat} {vs : Array Value} {π : Pi} : (mvO k f la ps must vs π).length <= 6 := by
 unfold mvO CB.ms bx4
 have h1 := gM_le (f := nE) (T := 3) (l := ps) (b := (cbP ps must π).ba) (r := (cbP ps must π).ra)
 have h2 := gM_le (f := nE) (T := 3) (l := must) (b := (cbP ps must π).bm) (r := (cbP ps must π).rm)
 simp only [List.length_append, List.length_cons, List.length_nil]
 omega
theorem cbP_ok {ps must : List Nat} {π : Pi} (h1 : ps.length <= 6) (h2 : must.length <= 6) : (cbP ps must π).OK ps must := ⟨gF_ok h1, gF_ok h2⟩
theorem movQ_L {k : Int} {f : Nat -> Int} {la : Int} {ps must : List Nat} {W W' : World} {e : Ending} (vs : Array Value) (h : MovQ k f la ps must W e W') : ∃ π, e = .returned (mvV ps must vs π) /\ ∀ {w0 : World} {D : Nat -> Prop} {J : (Nat -> Prop) -> World -> Prop} (l : List (Nat × Obj)), SatW w0 D J l W -> SatW w0 D J (mvO k f la ps must vs π ++ l) W' := by
 obtain ⟨c, ⟨g1, g2⟩, rfl, hb, hn, hm⟩ := h
 obtain ⟨b4, b5, b6, b7, ba, ca, ra, bm, cm, rm⟩ := c
 obtain ⟨e1, e2⟩ := gF (b := ba) g1
 obtain ⟨e3, e4⟩ := gF (b := bm) g2
 refine ⟨⟨0, [], [b4, b5, b6, b7, ba, bm], [ra, rm]⟩, rfl, fun l hl => ?_⟩
 have e5 : mvO k f la ps must vs ⟨0, [], [b4, b5, b6, b7, ba, bm], [ra, rm]⟩ = CB.ms ⟨b4, b5, b6, b7, ba, ca, ra, bm, cm, rm⟩ k f la ps must := by
  show bx4 b4 b5 b6 b7 k f la (gSl ps ba (capF 1 ps.length ra)) (gSl must bm (capF 1 must.length rm)) ++ (gM nE 3 ps ba (restF 1 ps.length ra) ++ gM nE 3 must bm (restF 1 must.length rm)) = _
  rw [e1, e2, e3, e4]; rfl
 rw [e5]
 exact satW_L hl hb hn hm
/-! ## What a step leaves -/
def plE (p : Pos) : List Value := plC p.1 (kn p.2)
theorem plE_rows (l : List Pos) : (l.map plE).flatten.length = l.length * 7 := by
 induction l with
 | nil => rfl
 | cons x l ih => rw [List.map_cons, List.flatten_cons, List.length_append, ih, List.length_cons]; show 7 + _ = _; omega
def DR.ms (r : DR) : List (Nat × Obj) := r.knM ++ r.doM
def rowsM (rs : List DR) : List (Nat × Obj) := rs.flatMap DR.ms
def DR.dec (r : DR) : Dec := decN r.k r.l r.d
/-- where the next positions lie -/
structure QN where
 b : Nat
 c : Nat
 r : List Value
/-- what a step hands back and leaves -/
structure SI where
 es : Mp
 s : SL
 rs : List DR
 q : QN
def SI.OK (b : GB) (rows0 : List DR) (ad : List Dec) (nx : List Pos) (i : SI) : Prop :=
 (∀ x ∈ i.es.es, EntV b x) /\ i.s.rows = rows0 ++ i.rs /\ i.s.OK /\ i.rs.map DR.dec = ad /\ (∀ r ∈ i.rs, r.OK) /\ gOK plE 7 nx i.q.c i.q.r
def SI.post (b : GB) (bs : Nat) (nx : List Pos) (i : SI) : List (Nat × Obj) := ((b.m, i.es.o) :: i.s.m bs) ++ (rowsM i.rs ++ gM plE 54 nx i.q.b i.q.r)
/-- the contract of a step -/
def StepC (b : GB) (a f bgs bs bg : Nat) (ad : Pos -> List Dec) (nx : Pos -> List Pos) (p : Pos) : Prop := ∀ (es : Mp) (s : SL) (w : World),
 (∀ x ∈ es.es, EntV b x) -> s.OK -> s.rows.length <= 10000000 -> (((b.m, es.o) :: s.m bs).map (·.1)).Nodup -> (∀ p ∈ (b.m, es.o) :: s.m bs, w.heap[p.1]? = some p.2) ->
 b.In a w (allBut w (((b.m, es.o) :: s.m bs).map (·.1))) -> Ext w (allBut w (((b.m, es.o) :: s.m bs).map (·.1))) bg 0 [.pointer (some ⟨a, 0, none⟩)] -> Ext w (allBut w (((b.m, es.o) :: s.m bs).map (·.1))) bgs 0 [.pointer (some ⟨a, 0, none⟩)] ->
 Calls Tryz.prog f ⟨[] ++ [.agg ⟨plE p⟩, .func (.func 67) ⟨[]⟩ ⟨[.pointer (some ⟨bs, 0, none⟩), .pointer (some ⟨bg, 0, none⟩)]⟩] ++ [.pointer (some ⟨bgs, 0, none⟩)]⟩ w
  (FrQ ((b.m, es.o) :: s.m bs) (fun i : { i : SI // i.OK b s.rows (ad p) (nx p) } => gSl (nx p) i.1.q.b i.1.q.c) (fun i => i.1.post b bs (nx p)) w)
theorem _root_.Go.Kin.SatW.allButP {w0 W : World} {D : Nat -> Prop} {J : (Nat -> Prop) -> World -> Prop} {mem pre mem0 : List (Nat × Obj)} (h : SatW w0 D J mem W) (hp : mem.Perm (pre ++ mem0)) : ∀ k, D k -> allBut W (pre.map (·.1)) k := fun k hk => by
 have h1 := h.perm hp
 refine ⟨Nat.lt_of_lt_of_le (h.dom k hk) h.same.size, fun hm => ?_⟩
 obtain ⟨p, hpp, e⟩ := List.mem_map.1 hm
 exact (h1.own p (List.mem_append_left _ hpp)).1 (e ▸ hk)
structure RS where
 i : Nat
 es : Mp
 s : SL
 rs : List DR
 q : QN
section
variable {β : Type}
theorem perm3 {x y z : β} {D E : List β} : (x :: y :: z :: (D ++ E)).Perm (z :: (D ++ (x :: y :: E))) := perm_by [[x], [y], [z], D, E] [0, 1, 2, 3, 4] [2, 3, 0, 1, 4] rfl (by simp) (by simp)
theorem perm4 {x y u z : β} {D E : List β} : (x :: y :: u :: z :: (D ++ E)).Perm (z :: (D ++ (x :: y :: u :: E))) := perm_by [[x], [y], [u], [z], D, E] [0, 1, 2, 3, 4, 5] [3, 4, 0, 1, 2, 5] rfl (by simp) (by simp)
theorem permG {D R G T : List β} : (D ++ (R ++ (G ++ T))).Perm (G ++ (D ++ (R ++ T))) := perm_by [D, R, G, T] [0, 1, 2, 3] [2, 0, 1, 3] rfl (by simp) (by simp)
theorem permT {D R G T : List β} : (D ++ (R ++ (G ++ T))).Perm (T ++ (D ++ (R ++ G))) := perm_by [D, R, G, T] [0, 1, 2, 3] [3, 0, 1, 2] rfl (by simp) (by simp)
theorem permA {D R G T : List β} {x y : β} : ((T ++ [x]) ++ ((D ++ [y]) ++ (R ++ G))).Perm (D ++ ((R ++ [x, y]) ++ (G ++ T))) := perm_by [D, R, G, T, [x], [y]] [3, 4, 0, 5, 1, 2] [0, 1, 4, 5, 2, 3] rfl (by simp) (by simp)
end
theorem rowsM_snoc {rs : List DR} {r : DR} : rowsM (rs ++ [r]) = rowsM rs ++ [(r.bk, .cells ⟨flI r.l ++ r.rk⟩ 3 (0, 0)), (r.bd, .cells ⟨(r.d.map nE).flatten ++ r.rd⟩ 3 (0, 0))] := by
 unfold rowsM DR.ms DR.knM DR.doM
 rw [List.flatMap_append]
 simp
theorem plE_len {p : Pos} : (plE p).length = 7 := plC_len
end R24
end Go.Proofs

set_option maxRecDepth 100000
set_option maxHeartbeats 400000000
namespace Go.Proofs
open Go.RowKit Go.Kin Go.Kin.St Go.Kin.Ct Go.Kin.Sg
namespace R24
noncomputable def nxI (G : Gm) (p : Pos) (i : Nat) : List Pos := ((allCh (may G p.1 p.2) (Sg.due G p.1 p.2)).take i).map fun S => (p.1 + 1, put (put p.2 S (p.1 + 1)) (gD G p.1 (put p.2 S (p.1 + 1))) (p.1 + 1))
noncomputable def adI (G : Gm) (p : Pos) (i : Nat) : List Dec := ((allCh (may G p.1 p.2) (Sg.due G p.1 p.2)).take i).flatMap fun S => dec1 p.1 (put p.2 S (p.1 + 1)) (gD G p.1 (put p.2 S (p.1 + 1)))
theorem nxI_all {G : Gm} {p : Pos} : nxI G p (allCh (may G p.1 p.2) (Sg.due G p.1 p.2)).length = nxD G p := by unfold nxI nxD; rw [List.take_length]
theorem adI_all {G : Gm} {p : Pos} : adI G p (allCh (may G p.1 p.2) (Sg.due G p.1 p.2)).length = adD G p := by unfold adI adD; rw [List.take_length]
theorem nxI_snoc {G : Gm} {p : Pos} {i : Nat} {S : List Nat} (h : (allCh (may G p.1 p.2) (Sg.due G p.1 p.2))[i]? = some S) : nxI G p (i + 1) = nxI G p i ++ [(p.1 + 1, put (put p.2 S (p.1 + 1)) (gD G p.1 (put p.2 S (p.1 + 1))) (p.1 + 1))] := by
 unfold nxI; rw [List.take_add_one, h, List.map_append]; rfl
theorem adI_snoc {G : Gm} {p : Pos} {i : Nat} {S : List Nat} (h : (allCh (may G p.1 p.2) (Sg.due G p.1 p.2))[i]? = some S) : adI G p (i + 1) = adI G p i ++ dec1 p.1 (put p.2 S (p.1 + 1)) (gD G p.1 (put p.2 S (p.1 + 1))) := by
 unfold adI; rw [List.take_add_one, h, List.flatMap_append]; simp
theorem nxI_len {G : Gm} {p : Pos} {i : Nat} : (nxI G p i).length <= i := by unfold nxI; rw [List.length_map, List.length_take]; omega
theorem allCh_len {ps must : List Nat} (h : ps.length <= 6) : (allCh ps must).length <= 64 := by
 unfold allCh chN
 refine Nat.le_trans (List.length_filter_le ..) ?_
 rw [List.length_map, List.length_range]
 exact Nat.le_trans (Nat.pow_le_pow_right (by omega) h) (by decide)
theorem step44_calls (b : GB) (a bgs bs bg k : Nat) (l : List Int) (hb : GOK b) (hk : k <= b.T) (hl : PosN b l) (hne : b.n ≠ 0) (hv : Vt b.g k l) : StepC b a 37 bgs bs bg (adD b.g) (nxD b.g) (k, l) := by
 intro es s w hes hs hsl hnd hm hg hbg hbgs
 have hT := hb.T
 have hn := hb.n
 have hsat := frQ_start hnd hm
 have hwk : ∀ d, b.T + 1 - (k + 1) = d -> WinsC b a (k + 1) := fun d hd => wins_calls b a hb d (k + 1) hd (by omega)
 have hW1 := hwk _ rfl
 obtain ⟨D, hD⟩ : ∃ D, D = allBut w (((b.m, es.o) :: s.m bs).map (·.1)) := ⟨_, rfl⟩
 rw [<- hD] at hg hbg hbgs hsat
 have hDm : ¬ D b.m := by rw [hD]; exact fun h => h.2 (by simp)
 have hml : (may b.g k l).length <= 6 := Nat.le_trans may_len hn
 have hdl : (Sg.due b.g k l).length <= 6 := Nat.le_trans due_len hn
 refine fEn Tryz.func37 rfl Tryz.ntmps37 rfl rfl hsat ?_
 repeat ((fail_if_success refine c_probe (id := 1) ?_); (fail_if_success refine c_probe1 (id := 1) ?_); first|refine lNi ?_|refine cRg ?_|refine cSq ?_|refine xTh ?_|refine r_box rfl rfl rfl rfl (fun _ => ?_)|refine r_alloc rfl rfl rfl (by first|exact aggL|fail) (fun _ => ?_)|fail)
 repeat refine cSq ?_
 rename_i b3 b4 b5
 refine c_new 0 7 [(1, .calO 0 (fun b => .agg ⟨plO b⟩) (bxG a)), (4, .calL [1, 2, 3, 4, 5, 6] (mvV (may b.g k l) (Sg.due b.g k l)) (mvO k (kn l) 0 (may b.g k l) (Sg.due b.g k l)))] [(1, [0]), (4, [1, 2, 3, 4, 5, 6])] [(4, 0)] rfl (by decide +kernel) rfl ?_
 refine e_val rfl rfl rfl rfl (by first|exact vL0 rfl (by assumption) rfl (by rfl) ) ?_
 refine e_callO rfl rfl rfl rfl rfl rfl (fun W hW => others_calls a W) (fun bq => ?_)
 refine e_val rfl rfl rfl rfl (by first|exact pEv rfl ) ?_
 refine e_val rfl rfl rfl rfl (v_loadAll rfl (by repeat constructor) rfl rfl plC_len) ?_
 refine e_callvL rfl rfl rfl rfl rfl rfl rfl (by decide) (fun _ => mvO_len) rfl (fun W hW => ?_) (fun π => ?_)
 ·have hcell := hW.cellAt (b := bq) (l := [.pointer (some ⟨a, 0, none⟩)]) (T := 49) (fr := (0, 0)) (by repeat constructor) 0
  refine (movO_calls b a bq k (kn l) W hn (by omega) (fun q => by have := hl.kn q; omega) hb.r hb.c (hg.sat hW) hcell).mono fun e W' h => ?_
  obtain ⟨π, h1, h2⟩ := movQ_L ⟨_⟩ h
  exact ⟨π, h1, fun m hm => h2 m hm⟩
 have hcok := cbP_ok (π := π) hml hdl
 obtain ⟨c, hc⟩ : ∃ c, cbP (may b.g k l) (Sg.due b.g k l) π = c := ⟨_, rfl⟩
 rw [hc] at hcok
 have ho : mvO k (kn l) 0 (may b.g k l) (Sg.due b.g k l) ⟨[.agg ⟨plC k (kn l)⟩, .pointer (some ⟨bq, 0, none⟩)]⟩ π = c.ms k (kn l) 0 (may b.g k l) (Sg.due b.g k l) := by unfold mvO; rw [hc]
 have hov : mvV (may b.g k l) (Sg.due b.g k l) ⟨[.agg ⟨plC k (kn l)⟩, .pointer (some ⟨bq, 0, none⟩)]⟩ π = c.v := by unfold mvV; rw [hc]
 have hol : (c.ms k (kn l) 0 (may b.g k l) (Sg.due b.g k l)).length <= 6 := by rw [<- ho]; exact mvO_len
 refine e_nilP (mem' := c.ms k (kn l) 0 (may b.g k l) (Sg.due b.g k l) ++ ((bq, bxG a) :: (b5, .cells ⟨[.slice none 0 0]⟩ 70 (0, 0)) :: (b4, .cells ⟨[.func (.func 67) ⟨[]⟩ ⟨[.pointer (some ⟨bs, 0, none⟩), .pointer (some ⟨bg, 0, none⟩)]⟩]⟩ 69 (0, 0)) :: (b3, .cells ⟨plC k (kn l)⟩ 54 (0, 0)) :: (b.m, es.o) :: s.m bs)) ?_ ?_
 ·refine ((perm_setL (ps := [1, 2, 3, 4, 5, 6]) (m := [some (bq, bxG a), none, none, none, none, none, none]) ?_ (by decide) ?_).symm.append_right _).trans ?_
  ·intro p hp
   simp only [List.mem_cons, List.not_mem_nil, or_false] at hp
   rcases hp with rfl | rfl | rfl | rfl | rfl | rfl <;> rfl
  ·exact mvO_len
  ·exact List.Perm.of_eq (by
    show (mvO k (kn l) 0 (may b.g k l) (Sg.due b.g k l) ⟨[.agg ⟨plC k (kn l)⟩, .pointer (some ⟨bq, 0, none⟩)]⟩ π ++ [(bq, bxG a)]) ++ _ = _
    rw [ho, List.append_assoc]
    rfl)
 repeat (first|refine xTh ?_|refine cBl ?_|fail)
 have hl6 := allCh_len (ps := may b.g k l) (must := Sg.due b.g k l) hml
 refine c_rangeH (chH k (kn l) 0) (allCh (may b.g k l) (Sg.due b.g k l)) (fun x => x ∈ (c.ms k (kn l) 0 (may b.g k l) (Sg.due b.g k l)).map (·.1)) (c.ms k (kn l) 0 (may b.g k l) (Sg.due b.g k l)) (ι := RS) (fun o => o.i)
  (fun o => (∀ x ∈ o.es.es, EntV b x) /\ o.s.rows = s.rows ++ o.rs /\ o.s.OK /\ o.rs.map DR.dec = adI b.g (k, l) o.i /\ (∀ r ∈ o.rs, r.OK) /\ gOK plE 7 (nxI b.g (k, l) o.i) o.q.c o.q.r /\ o.rs.length <= o.i /\ o.i <= (allCh (may b.g k l) (Sg.due b.g k l)).length)
  (fun o => (b5, .cells ⟨[gSl (nxI b.g (k, l) o.i) o.q.b o.q.c]⟩ 70 (0, 0)) :: (b4, .cells ⟨[.func (.func 67) ⟨[]⟩ ⟨[.pointer (some ⟨bs, 0, none⟩), .pointer (some ⟨bg, 0, none⟩)]⟩]⟩ 69 (0, 0)) :: (b.m, o.es.o) :: (rowsM o.rs ++ (gM plE 54 (nxI b.g (k, l) o.i) o.q.b o.q.r ++ o.s.m bs)))
  (fun _ _ => False)
  ⟨0, es, s, [], ⟨0, 0, []⟩⟩ (show evOp _ (.tmp 15) = some c.v from congrArg some hov) (fun W W1 hW hS => cb_it c hml hdl (fun x hx => by have := may_lt' x hx; omega) (by omega) (by omega) hW (fun p hp => List.mem_append_left _ hp) hS) (fun b hb => .inr hb) (fun x _ vs ms h => by obtain ⟨b, cap, rest, _, rfl, _⟩ := h; rfl) (by decide) rfl
  ⟨hes, (List.append_nil _).symm, hs, rfl, (fun r hr => by cases hr), fun h => absurd rfl h, Nat.le_refl _, Nat.zero_le _⟩ (mSub_app (MSub.drop (MSub.keep rfl (MSub.keep rfl (MSub.drop (MSub.refl _))))) _)
  (env' := [(2, .pointer (some ⟨bgs, 0, none⟩)), (4, .pointer (some ⟨b4, 0, none⟩)), (5, .pointer (some ⟨b5, 0, none⟩))]) (by repeat (first|exact .nil|refine .cons rfl (by first|rfl|(congr 1; done)|exact congrArg _ (by omega)|(simp; done)) ?_)) ?_ ?_ ?_
 ·rintro ⟨i, es1, s1, rs, qn⟩ ⟨i1, i2, i3, i4, i5, i6, i7, i8⟩ hki vs ms hH n lp W hW hDl hol2
  simp only at i1 i2 i3 i4 i5 i6 i7 i8 hki hH hW hol2 ⊢
  obtain ⟨sb, scap, srest, hsg, rfl, rfl⟩ := hH
  obtain ⟨S, hS⟩ : ∃ S, (allCh (may b.g k l) (Sg.due b.g k l))[i] = S := ⟨_, rfl⟩
  have hS2 : (allCh (may b.g k l) (Sg.due b.g k l))[i]? = some S := by rw [List.getElem?_eq_getElem hki, hS]
  rw [hS] at hsg hW hol2 ⊢
  have hSm := List.mem_of_getElem? hS2
  have hSl := ch_lt hSm may_lt'
  obtain ⟨q, hq⟩ : ∃ q, put l S ((k : Int) + 1) = q := ⟨_, rfl⟩
  have hpq : PosN b q := by rw [<- hq]; exact hl.put (by omega)
  have hpf : putF (kn l) S ((k : Int) + 1) = kn q := by rw [<- hq]; exact putF_kn fun x hx => by have := hSl x hx; have := hl.1; omega
  obtain ⟨gd1, gd2, gd3⟩ := gD_good hk (ch_mem.2 hSm) hv
  have hns := nxI_snoc (G := b.g) (p := (k, l)) hS2
  have has := adI_snoc (G := b.g) (p := (k, l)) hS2
  simp only at hns has
  rw [hq] at gd1 gd2 hns has
  obtain ⟨dd, hdd⟩ : ∃ dd, gD b.g k q = dd := ⟨_, rfl⟩
  rw [hdd] at gd1 gd2 hns has
  rw [hpf, Int.add_zero]
  have hg1 : b.In a W (outside (gM nE 3 S sb srest ++ (b5, Obj.cells ⟨[gSl (nxI b.g (k, l) i) qn.b qn.c]⟩ 70 (0, 0)) :: (b4, .cells ⟨[.func (.func 67) ⟨[]⟩ ⟨[.pointer (some ⟨bs, 0, none⟩), .pointer (some ⟨bg, 0, none⟩)]⟩]⟩ 69 (0, 0)) :: (b.m, es1.o) :: (rowsM rs ++ (gM plE 54 (nxI b.g (k, l) i) qn.b qn.r ++ s1.m bs))) W) := hg.move hW.same fun k hk => hW.within hk
  refine c_sub _ (List.sublist_append_right _ _) ?_
  repeat (first|refine r_alloc rfl rfl rfl (plC_zero rfl) (fun _ => ?_)|refine rSt (vs := plC _ _) rfl rfl rfl rfl rfl plC_beq plC_one (by repeat constructor) (putAll (plC_len.trans plC_len.symm)) ?_|refine lNi ?_|refine cRg ?_|fail)
  refine x_body hW hDl hol2 (fun n2 W2 r2 hW2 hr2 ho2 => ?_)
  rename_i b7
  have hg2 := hg.move hW2.same fun k hk => hW2.within hk
  have hbg2 := hbg.into hW2
  have hbgs2 := hbgs.into hW2
  repeat ((fail_if_success refine c_probe (id := 3) ?_); (fail_if_success refine c_probe1 (id := 3) ?_); first|refine cBl ?_|fail)
  refine c_hasJ (b := b.m) (R := EntV b) (ents := es1.es) (clock := es1.cl) (List.perm_middle (l₁ := [_, _, _])) i1 (fun hD2 => ?_)
  repeat refine cSq ?_
  refine c_new 0 3 [(1, .calO 0 (fun b => .agg ⟨plD a b⟩) (bxG a)), (3, .calL [1] (fV (some dd) k (kn q) 1) (fM (some dd))), (8, .new 2), (10, .sto 2 0 7)] [(1, [0]), (3, [1]), (8, [2]), (10, [2])] [(3, 0)] rfl (by decide +kernel) rfl ?_
  refine e_val rfl rfl rfl rfl (by first|exact vL0 rfl (by assumption) rfl (by rfl) ) ?_
  refine e_callO rfl rfl rfl rfl rfl rfl (fun W hW => desk_calls a W) (fun bq2 => ?_)
  refine e_val rfl rfl rfl rfl (v_loadAll rfl (by repeat constructor) rfl rfl plC_len) ?_
  refine e_callL rfl rfl rfl rfl rfl (by decide) (fun _ => fM_len) rfl (fun W3 hW3 => ?_) (fun π2 => ?_)
  ·obtain ⟨es2, h1, h2⟩ := word_m hW3
   have hcell := hW3.cellAt (b := bq2) (l := [.pointer (some ⟨a, 0, none⟩)]) (T := 49) (fr := (0, 0)) (by repeat constructor) 0
   refine (firstD_calls b a bq2 k q W3 es2 hb hk hpq (hg2.sat hW3) hcell h1 h2 hW1).mono fun e W' h => ?_
   rw [gd1] at h
   exact firstQ_L _ hD2 h
  cases dd with
  | nil =>
   repeat ((fail_if_success refine c_probe (id := 4) ?_); (fail_if_success refine c_probe1 (id := 4) ?_); first|refine e_new rfl rfl rfl rfl (n_alloc rfl (plC_zero rfl)) (fun _ => ?_)|refine e_store (vs := plC _ _) rfl rfl rfl rfl rfl plC_beq plC_one rfl rfl rfl rfl (by rw [plC_len]; decide) (splice_all (plC_len.trans plC_len.symm)) ?_|refine xTh ?_|refine e_val rfl rfl rfl rfl (by first|exact pEv rfl|fail) ?_|refine e_nil rfl ?_|fail)
   refine c_unJ hD2 (fun ents2 clock2 hes2 => ?_)
   have hp2 : plC ((k : Int) + 1) (putF (kn q) [] ((k : Int) + 1)) = plE (k + 1, put q [] ((k : Int) + 1)) := by
    unfold plE; rw [putF_kn (fun x hx => by cases hx)]; simp
   rw [hp2]
   refine c_perm perm3 ?_
   simp only [List.cons_append, List.nil_append]
   rename_i b9
   repeat (first|refine r_callv rfl rfl rfl rfl rfl (fun W hW => add0_calls bs bg k (kn q) W) ?_|refine lVa rfl rfl (v_loadAll rfl (by repeat constructor) rfl rfl plC_len) ?_|refine lVa rfl rfl (by first|exact pEv rfl|exact vLd rfl (by repeat constructor) rfl (by rfl)|fail) ?_|refine lNi ?_|refine cRg ?_|refine cSq ?_|refine xTh ?_|refine r_buildSlice rfl rfl rfl rfl rfl rfl (by rfl) (fun _ => ?_)|fail)
   rename_i bn
   have hnl := nxI_len (G := b.g) (p := (k, l)) (i := i)
   refine r_appendZ (f := plE) (e := 54) (sz := 7) (xs := nxI b.g (k, l) i) (ys := [(k + 1, put q [] ((k : Int) + 1))]) (m := 1) rfl rfl rfl rfl rfl rfl rfl (.inr ⟨_, 0, rfl, news_own (by repeat constructor)⟩) (permG (D := [_, _, _, _, _, _, _])) i6 plE_rows rfl rfl (by omega) (by unfold maxLen; omega) (fun b8 c8 r8 hg8 => ?_)
   rw [<- hns] at hg8 ⊢
   refine l_perm (permG (D := [_, _, _, _, _, _, _])).symm ?_
   simp only [List.cons_append, List.nil_append]
   repeat (first|refine rSt (vs := [_]) rfl rfl rfl gSl_cells rfl rfl gSl_one (by repeat constructor) (by rfl) ?_|refine lNi ?_|refine x_block ?_|fail)
   exact x_next ⟨i + 1, ⟨ents2, clock2⟩, s1, rs, ⟨b8, c8, r8⟩⟩ rfl ⟨hes2, i2, i3, by rw [i4, has]; simp [dec1], i5, hg8, by simp only; omega, hki⟩ (by repeat (first|exact .nil|refine .keep (by first|rfl|assumption) ?_|refine .drop ?_|exact MSub.refl _))
  | cons x dd =>
   repeat ((fail_if_success refine c_probe (id := 4) ?_); (fail_if_success refine c_probe1 (id := 4) ?_); first|refine e_new rfl rfl rfl rfl (n_alloc rfl (plC_zero rfl)) (fun _ => ?_)|refine e_store (vs := plC _ _) rfl rfl rfl rfl rfl plC_beq plC_one rfl rfl rfl rfl (by rw [plC_len]; decide) (splice_all (plC_len.trans plC_len.symm)) ?_|refine xTh ?_|refine e_val rfl rfl rfl rfl (by first|exact pEv rfl|fail) ?_|refine e_nil rfl ?_|fail)
   refine c_unJ hD2 (fun ents2 clock2 hes2 => ?_)
   have hp2 : plC ((k : Int) + 1) (putF (kn q) (x :: dd) ((k : Int) + 1)) = plE (k + 1, put q (x :: dd) ((k : Int) + 1)) := by
    unfold plE; rw [putF_kn (fun y hy => by have := free_lt y (gd2.subset hy); have := hpq.1; omega)]; simp
   rw [hp2]
   refine c_perm perm4 ?_
   simp only [List.cons_append, List.nil_append]
   rename_i b9
   repeat (first|refine lVa rfl rfl (v_loadAll rfl (by repeat constructor) rfl rfl plC_len) ?_|refine lVa rfl rfl (by first|exact pEv rfl|exact vLd rfl (by repeat constructor) rfl (by rfl)|fail) ?_|refine cRg ?_|refine cSq ?_|fail)
   have hdl6 : (x :: dd).length <= 6 := Nat.le_trans gd2.length_le (Nat.le_trans free_len hn)
   have hq0 : q ≠ [] := fun e => hne (by rw [<- hpq.1, e]; rfl)
   have hsl2 : s1.rows.length <= 100000000 := by rw [i2, List.length_append]; omega
   refine r_callvF (pre := s1.m bs) rfl rfl rfl rfl rfl (permT (D := [_, _, _, _, _, _, _])) (fun W hW h1 h2 => add_calls b a bg bs k q s1 x dd π2.b (capF 1 (x :: dd).length π2.rest) (restF 1 (x :: dd).length π2.rest) W hn hpq.1 hq0 (hg2.move hW.same (hW.allButP (permT (D := [_, _, _, _, _, _, _])))) (hbg2.move hW.same (hW.allButP (permT (D := [_, _, _, _, _, _, _])))) i3 hsl2 h1 h2) ?_
   rintro ⟨ai, ha1, ha2⟩
   simp only
   refine l_perm (permA (D := [_, _, _, _, _, _])) ?_
   rw [<- rowsM_snoc (r := ⟨k, q, x :: dd, ai.bk, ai.ck, ai.rk, π2.b, capF 1 (x :: dd).length π2.rest, restF 1 (x :: dd).length π2.rest⟩)]
   simp only [List.cons_append, List.nil_append]
   repeat (first|refine lVa rfl rfl (v_loadAll rfl (by repeat constructor) rfl rfl plE_len) ?_|refine lVa rfl rfl (by first|exact vLd rfl (by repeat constructor) rfl (by rfl)|fail) ?_|refine lNi ?_|refine cRg ?_|refine xTh ?_|refine r_buildSlice rfl rfl rfl rfl rfl rfl (by rfl) (fun _ => ?_)|fail)
   rename_i bn
   have hnl := nxI_len (G := b.g) (p := (k, l)) (i := i)
   refine r_appendZ (f := plE) (e := 54) (sz := 7) (xs := nxI b.g (k, l) i) (ys := [(k + 1, put q (x :: dd) ((k : Int) + 1))]) (m := 1) rfl rfl rfl rfl rfl rfl rfl (.inr ⟨_, 0, rfl, news_own (by repeat constructor)⟩) (permG (D := [_, _, _, _, _, _, _])) i6 plE_rows rfl rfl (by omega) (by unfold maxLen; omega) (fun b8 c8 r8 hg8 => ?_)
   rw [<- hns] at hg8 ⊢
   refine l_perm (permG (D := [_, _, _, _, _, _, _])).symm ?_
   simp only [List.cons_append, List.nil_append]
   repeat (first|refine rSt (vs := [_]) rfl rfl rfl gSl_cells rfl rfl gSl_one (by repeat constructor) (by rfl) ?_|refine lNi ?_|refine x_block ?_|fail)
   exact x_next ⟨i + 1, ⟨ents2, clock2⟩, ⟨s1.rows ++ [DR.mk k q (x :: dd) ai.bk ai.ck ai.rk π2.b (capF 1 (x :: dd).length π2.rest) (restF 1 (x :: dd).length π2.rest)], ai.b, ai.c, ai.r⟩, rs ++ [DR.mk k q (x :: dd) ai.bk ai.ck ai.rk π2.b (capF 1 (x :: dd).length π2.rest) (restF 1 (x :: dd).length π2.rest)], ⟨b8, c8, r8⟩⟩ rfl
    ⟨hes2, by simp only; rw [i2, List.append_assoc], (show gOK drE 3 _ _ _ from ha2), by simp only; rw [List.map_append, i4, has]; rfl, fun r hr => by
     rcases List.mem_append.1 hr with hr | hr
     ·exact i5 r hr
     ·rw [List.mem_singleton.1 hr]
      exact ⟨ha1, gF_ok hdl6 (by simp), by simp⟩, hg8, by simp only [List.length_append, List.length_cons, List.length_nil]; omega, hki⟩ (by repeat (first|exact .nil|refine .keep (by first|rfl|assumption) ?_|refine .drop ?_|exact MSub.refl _))
 ·rintro B ⟨i, es1, s1, rs, qn⟩ hki ⟨i1, i2, i3, i4, i5, i6, i7, i8⟩
  simp only at hki i1 i2 i3 i4 i5 i6 ⊢
  rw [hki] at i4 i6 ⊢
  rw [show nxI b.g (k, l) (allCh (may b.g k l) (Sg.due b.g k l)).length = nxD b.g (k, l) from nxI_all] at i6 ⊢
  rw [show adI b.g (k, l) (allCh (may b.g k l) (Sg.due b.g k l)).length = adD b.g (k, l) from adI_all] at i4
  repeat ((fail_if_success refine c_probe (id := 6) ?_); (fail_if_success refine c_probe1 (id := 6) ?_); first|refine xTh ?_|refine x_block ?_|fail)
  refine c_perm (List.perm_append_comm.cons _) ?_
  simp only [List.cons_append, List.nil_append]
  repeat (first|refine rSt (vs := [_]) rfl rfl rfl gSl_cells rfl rfl gSl_one (by repeat constructor) (by rfl) ?_|refine lVa rfl rfl (by first|exact vLd rfl (by repeat constructor) rfl (by rfl)|fail) ?_|refine lNi ?_|refine cRg ?_|refine cSq ?_|refine xTh ?_|refine c_ret ?_|fail)
  refine x_rets (Ds := [B]) rfl rfl (Split.mark (split_self _)) rfl (by repeat constructor) rfl (fun W hW => ?_)
  refine ⟨⟨⟨es1, s1, rs, qn⟩, i1, i2, i3, i4, i5, i6⟩, rfl, ?_⟩
  rw [<- hD]
  have h1 : SatW w D noJ (((b.m, es1.o) :: (rowsM rs ++ (gM plE 54 (nxD b.g (k, l)) qn.b qn.r ++ s1.m bs))) ++ c.ms k (kn l) 0 (may b.g k l) (Sg.due b.g k l)) W := hW.mono ((List.sublist_cons_self _ _).trans (List.sublist_cons_self _ _))
  exact (h1.mono (List.sublist_append_left _ _)).perm (perm_by [[(b.m, es1.o)], rowsM rs, gM plE 54 (nxD b.g (k, l)) qn.b qn.r, s1.m bs] [0, 1, 2, 3] [0, 3, 1, 2] rfl (by simp) (by simp [SI.post]))
 ·intro B cd o h
  exact h.elim
end R24
end Go.Proofs
