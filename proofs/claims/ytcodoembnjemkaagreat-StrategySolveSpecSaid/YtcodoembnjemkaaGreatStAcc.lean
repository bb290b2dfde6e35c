/- The sets that a side may choose, by the bits of a number. Plain Lean. -/
import Derived.Test.YtcodoembnjemkaaGreatGenCell
import Derived.Test.YtcodoembnjemkaaGreatSgE
set_option linter.unusedSectionVars false
set_option linter.unusedVariables false
set_option linter.unusedSimpArgs false
namespace Go.Kin.Sg
/-- of the first `i` elements those whose bits are set -/
def pick (ps : List Nat) (b i : Nat) : List Nat := ((List.range i).filter fun j => b.testBit j).map fun j => ps.getD j 0
theorem pick_succ {ps : List Nat} {b i : Nat} : pick ps b (i + 1) = if b.testBit i = true then pick ps b i ++ [ps.getD i 0] else pick ps b i := by
 unfold pick
 rw [List.range_succ, List.filter_append, List.map_append]
 cases h : b.testBit i <;> simp [h]
theorem pick_le {ps : List Nat} {b : Nat} : ∀ {i : Nat}, (pick ps b i).length <= i
 | 0 => Nat.le_refl _
 | i + 1 => by
  rw [pick_succ]
  have := pick_le (ps := ps) (b := b) (i := i)
  split
  ·rw [List.length_append]; simp; omega
  ·omega
theorem take_getD {ps : List Nat} {i : Nat} (h : i < ps.length) : ps.take (i + 1) = ps.take i ++ [ps.getD i 0] := by
 rw [List.take_add_one, List.getD_eq_getElem?_getD, List.getElem?_eq_getElem h]; rfl
theorem pick_sub {ps : List Nat} {b : Nat} : ∀ {i : Nat}, i <= ps.length -> List.Sublist (pick ps b i) (ps.take i)
 | 0, _ => List.nil_sublist _
 | i + 1, h => by
  rw [pick_succ, take_getD (by omega)]
  have := pick_sub (ps := ps) (b := b) (i := i) (by omega)
  split
  ·exact this.append (List.Sublist.refl _)
  ·exact this.trans (List.sublist_append_left _ _)
theorem pick_congr {ps : List Nat} {b c : Nat} : ∀ {i : Nat}, (∀ j, j < i -> b.testBit j = c.testBit j) -> pick ps b i = pick ps c i
 | 0, _ => rfl
 | i + 1, h => by rw [pick_succ, pick_succ, h i (by omega), pick_congr fun j hj => h j (by omega)]
theorem sub_snoc {α : Type} {S l : List α} {x : α} (h : List.Sublist S (l ++ [x])) : List.Sublist S l ∨ ∃ S', S = S' ++ [x] /\ List.Sublist S' l := by
 obtain ⟨a, b, rfl, h1, h2⟩ := List.sublist_append_iff.1 h
 cases h2 with
 | cons _ h2 =>
  cases h2
  left; rw [List.append_nil]; exact h1
 | cons_cons _ h2 =>
  cases h2
  exact .inr ⟨a, rfl, h1⟩
theorem pick_of {ps : List Nat} : ∀ {i : Nat} {S : List Nat}, i <= ps.length -> List.Sublist S (ps.take i) -> ∃ b, b < 2 ^ i /\ pick ps b i = S
 | 0, S, _, h => ⟨0, by simp, by rw [List.take_zero] at h; rw [List.sublist_nil.1 h]; rfl⟩
 | i + 1, S, hi, h => by
  rw [take_getD (by omega)] at h
  have e : 2 ^ (i + 1) = 2 ^ i + 2 ^ i := by rw [Nat.pow_succ]; omega
  rcases sub_snoc h with h2 | ⟨S', rfl, h2⟩
  ·obtain ⟨b, hb, hp⟩ := pick_of (ps := ps) (i := i) (Nat.le_of_succ_le hi) h2
   refine ⟨b, by omega, ?_⟩
   rw [pick_succ, Nat.testBit_lt_two_pow hb, if_neg (by decide), hp]
  ·obtain ⟨b, hb, hp⟩ := pick_of (ps := ps) (i := i) (Nat.le_of_succ_le hi) h2
   refine ⟨2 ^ i + b, by omega, ?_⟩
   rw [pick_succ, Nat.testBit_two_pow_add_eq, Nat.testBit_lt_two_pow hb, if_pos (by decide), pick_congr (c := b) fun j hj => Nat.testBit_two_pow_add_gt hj b, hp]
/-- is a set right -/
def okC (must S : List Nat) : Bool := must.all fun q => S.contains q
theorem okC_iff {must S : List Nat} : okC must S = true ↔ ∀ x ∈ must, x ∈ S := by
 unfold okC
 rw [List.all_eq_true]
 constructor
 ·intro h x hx; exact List.contains_iff_mem.1 (h x hx)
 ·intro h x hx; exact List.contains_iff_mem.2 (h x hx)
/-- the first `b` numbers' sets -/
def chN (ps must : List Nat) (b : Nat) : List (List Nat) := ((List.range b).map fun c => pick ps c ps.length).filter (okC must)
theorem chN_succ {ps must : List Nat} {b : Nat} : chN ps must (b + 1) = if okC must (pick ps b ps.length) = true then chN ps must b ++ [pick ps b ps.length] else chN ps must b := by
 unfold chN
 rw [List.range_succ, List.map_append, List.filter_append]
 cases h : okC must (pick ps b ps.length) <;> simp [h]
/-- all sets -/
def allCh (ps must : List Nat) : List (List Nat) := chN ps must (2 ^ ps.length)
theorem mem_allCh {ps must S : List Nat} : S ∈ allCh ps must ↔ List.Sublist S ps /\ ∀ x ∈ must, x ∈ S := by
 unfold allCh chN
 rw [List.mem_filter, List.mem_map, okC_iff]
 constructor
 ·rintro ⟨⟨b, _, rfl⟩, h⟩
  refine ⟨?_, h⟩
  have := pick_sub (ps := ps) (b := b) (Nat.le_refl ps.length)
  rwa [List.take_length] at this
 ·rintro ⟨h1, h2⟩
  obtain ⟨b, hb, hp⟩ := pick_of (Nat.le_refl ps.length) (by rwa [List.take_length])
  exact ⟨⟨b, List.mem_range.2 hb, hp⟩, h2⟩
theorem chN_pre {ps must : List Nat} : ∀ {n b : Nat}, b <= n -> ∃ r, chN ps must n = chN ps must b ++ r := by
 intro n b h
 induction n with
 | zero => obtain rfl : b = 0 := by omega
           exact ⟨[], by simp⟩
 | succ n ih =>
  by_cases e : b = n + 1
  ·subst e; exact ⟨[], by simp⟩
  ·obtain ⟨r, hr⟩ := ih (by omega)
   rw [chN_succ]
   split
   ·exact ⟨r ++ [pick ps n ps.length], by rw [hr, List.append_assoc]⟩
   ·exact ⟨r, hr⟩
/-- the set of a number that is right has its place -/
theorem chN_at {ps must : List Nat} {b : Nat} (hb : b < 2 ^ ps.length) (ho : okC must (pick ps b ps.length) = true) : (allCh ps must)[(chN ps must b).length]? = some (pick ps b ps.length) := by
 obtain ⟨r, hr⟩ := chN_pre (ps := ps) (must := must) (n := 2 ^ ps.length) (b := b + 1) hb
 unfold allCh
 rw [hr, chN_succ, if_pos ho, List.append_assoc, List.getElem?_append_right (Nat.le_refl _), Nat.sub_self]
 rfl
theorem chN_full {ps must : List Nat} : chN ps must (2 ^ ps.length) = allCh ps must := rfl
theorem ch_mem {G : Gm} {k : Nat} {l : List Int} {S : List Nat} : Ch G k l S ↔ S ∈ allCh (may G k l) (due G k l) := mem_allCh.symm
theorem free_ch {G : Gm} {l : List Int} {S : List Nat} : List.Sublist S (free G l) ↔ S ∈ allCh (free G l) [] := by
 rw [mem_allCh]
 exact ⟨fun h => ⟨h, fun x hx => by cases hx⟩, fun h => h.1⟩
end Go.Kin.Sg

set_option maxRecDepth 100000
set_option maxHeartbeats 400000000
namespace Go.Proofs
open Go.RowKit Go.Kin Go.Kin.St Go.Kin.Ct Go.Kin.Sg
namespace R24
def toI (l : List Nat) : List Int := l.map fun x : Nat => (x : Int)
theorem toI_len {l : List Nat} : (toI l).length = l.length := List.length_map ..
theorem toI_rows {l : List Nat} : (toI l).map inE = l.map nE := by unfold toI; rw [List.map_map]; rfl
theorem toI_mem {l : List Nat} {x : Nat} : (x : Int) ∈ toI l ↔ x ∈ l := by
 unfold toI
 rw [List.mem_map]
 constructor
 ·rintro ⟨y, hy, e⟩
  rwa [show y = x by omega] at hy
 ·intro h; exact ⟨x, h, rfl⟩
theorem any_ok {must S : List Nat} : ((toI must).any fun x => !(toI S).contains x) = !okC must S := by
 have h := allIn_iff (l := toI must) (m := toI S)
 unfold allIn at h
 cases ho : okC must S with
 | true =>
  rw [okC_iff] at ho
  have := h.2 fun x hx => by
   obtain ⟨y, hy, rfl⟩ := List.mem_map.1 hx
   exact toI_mem.2 (ho y hy)
  rw [Bool.not_eq_true'] at this
  rw [this]; rfl
 | false =>
  cases h2 : (toI must).any fun x => !(toI S).contains x with
  | true => rfl
  | false =>
   rw [h2] at h
   have h3 := h.1 rfl
   have : okC must S = true := okC_iff.2 fun x hx => toI_mem.1 (h3 x (toI_mem.2 hx))
   rw [ho] at this; cases this
/-- a set with its position, and the memory that it brings -/
def chH (k : Int) (f : Nat -> Int) (later : Int) (S : List Nat) (vs : List Value) (ms : List (Nat × Obj)) : Prop :=
 ∃ b cap rest, gOK nE 1 S cap rest /\ vs = [gSl S b cap, .agg ⟨plC (k + later) (putF f S (k + 1))⟩] /\ ms = gM nE 3 S b rest
theorem bit_val {b i : Nat} : ((b : Int) / 2 ^ i) = ((b / 2 ^ i : Nat) : Int) := by
 rw [Int.natCast_ediv, Int.natCast_pow]; rfl
theorem and_one (q : Nat) : bits .and .i64 (q : Int) 1 = ((q % 2 : Nat) : Int) := by
 have h := and_low (q : Int) 1 (by omega)
 rw [show ((2 : Int) ^ 1 - 1) = 1 by decide, show ((2 : Int) ^ 1) = 2 by decide] at h
 rw [h]; omega
theorem bit_dec {b i : Nat} : decide ((((b / 2 ^ i % 2 : Nat)) : Int) = 1) = b.testBit i := by
 rw [Nat.testBit_eq_decide_div_mod_eq]
 exact decide_eq_decide.2 (by omega)
structure PS where
 i : Nat
 b : Nat
 c : Nat
 r : List Value
theorem gSl_one {α : Type} {l : List α} {b cap : Nat} : allOne [gSl l b cap] = true := by cases l <;> rfl
theorem gSl_cells {α : Type} {l : List α} {b cap : Nat} : cellsL (gSl l b cap) = [gSl l b cap] := by cases l <;> rfl
theorem at_gM {α : Type} {w0 W : World} {D : Nat -> Prop} {J : (Nat -> Prop) -> World -> Prop} {mem : List (Nat × Obj)} {f : α -> List Value} {T : TypeId} {sz : Nat} {l : List α} {b cap : Nat} {rest : List Value} (hW : SatW w0 D J mem W) (h : ∀ p ∈ gM f T l b rest, p ∈ mem)
  (hsz : ∀ x, (f x).length = sz) : ∃ A c, gSl l b cap = .slice A l.length c /\ At W A sz (l.map f) := by
 cases l with
 | nil => exact ⟨none, 0, rfl, fun i cs hi => by simp at hi⟩
 | cons x l =>
  refine ⟨_, _, rfl, ?_⟩
  have hm := h _ List.mem_cons_self
  exact hW.rows (b := b) (rest := rest) hm rfl (fun r hr => by obtain ⟨y, _, rfl⟩ := List.mem_map.1 hr; exact hsz y)
theorem choices_it (R : Nat -> Prop) (b4 b5 b6 b7 : Nat) (A B : Option Addr) (ca cb : Nat) (k : Int) (f : Nat -> Int) (ps must : List Nat) (later : Int) (W : World) (hR : ∀ x, R x -> x < W.heap.size)
  (hE1 : Ext W R b5 0 [.slice A ps.length ca]) (hE2 : Ext W R b6 0 [.slice B must.length cb]) (hE3 : Ext W R b4 0 (plC k f)) (hE4 : Ext W R b7 0 [.int .i64 later]) (hA : Ar W R A 1 (ps.map nE)) (hB : Ar W R B 1 (must.map nE))
  (hn : ps.length <= 6) (hmu : must.length <= 6) (hps : ∀ q ∈ ps, q < 6) (hk : 0 <= k /\ k <= 100) (hla : 0 <= later /\ later <= 1) :
  ItH Tryz.prog 84 [.pointer (some ⟨b5, 0, none⟩), .pointer (some ⟨b6, 0, none⟩), .pointer (some ⟨b4, 0, none⟩), .pointer (some ⟨b7, 0, none⟩)] (chH k f later) (allCh ps must) R W := by
 intro lp J Jx cJ cJx hy h0
 have hs : SatW W R (J 0) [] W := ⟨Same.refl _ _, hR, List.nodup_nil, fun p hp => (by cases hp), cJ 0, cJ 0 _ _ _ _ h0 (Same.refl _ _) fun b hb => (by cases hb)⟩
 have hp2 : (2 : Nat) ^ ps.length <= 64 := Nat.le_trans (Nat.pow_le_pow_right (by omega) hn) (by decide)
 obtain ⟨N, hN⟩ : ∃ N : Nat, N = 2 ^ ps.length := ⟨_, rfl⟩
 rw [<- hN] at hp2
 have hsh : IntKind.i64.wrap (1 * 2 ^ ps.length) = (N : Int) := by
  have e : (1 : Int) * 2 ^ ps.length = (N : Int) := by rw [hN, Int.natCast_pow, Int.one_mul]; rfl
  rw [e]; exact wrap_i64 (by omega) (by omega)
 refine fEn Tryz.func84 rfl Tryz.ntmps84 rfl rfl hs ?_
 repeat (first|refine lVa rfl rfl (by first|exact pEv rfl|exact vL0 rfl (by assumption) rfl (by rfl)|fail) ?_|refine lNi ?_|refine cRg ?_|refine cSq ?_|refine xTh ?_|refine cBl ?_|refine lVa rfl rfl (v_shlA rfl rfl (by omega) hsh) ?_|fail)
 refine c_loopD (ι := Nat) (fun b => b <= N) (fun _ => []) (fun b => J (chN ps must b).length) (fun b => [(0, .func (.yield lp) ⟨[]⟩ ⟨[]⟩), (1, .pointer (some ⟨b5, 0, none⟩)), (2, .pointer (some ⟨b6, 0, none⟩)), (3, .pointer (some ⟨b4, 0, none⟩)), (4, .pointer (some ⟨b7, 0, none⟩)), (13, .int .i64 N), (14, .int .i64 b)]) (fun _ => []) (fun b => N - b) 0 (by omega) rfl rfl (by repeat (first|exact .nil|refine .cons rfl (by first|rfl|(congr 1; done)|exact congrArg _ (by omega)|(simp; done)) ?_)) (by repeat (first|exact .nil|refine .keep (by first|rfl|assumption) ?_|refine .drop ?_|exact MSub.refl _)) ?_
 intro b hb
 by_cases hlt : b < N
 ·repeat (first|refine lVa rfl rfl (by first|exact pEv rfl|exact vL0 rfl (by assumption) rfl (by rfl)|fail) ?_|refine lNi ?_|refine cRg ?_|refine cSq ?_|refine xTh ?_|refine r_alloc rfl rfl rfl (by first|exact aggL|fail) (fun _ => ?_)|refine c_dec_t rfl (by first|omega|fail) ?_|refine cBl ?_|refine cSk ?_|fail)
  rename_i bl
  refine c_loop (ι := PS) (fun s => s.i <= ps.length /\ gOK nE 1 (pick ps b s.i) s.c s.r) (fun s => [(0, .func (.yield lp) ⟨[]⟩ ⟨[]⟩), (1, .pointer (some ⟨b5, 0, none⟩)), (2, .pointer (some ⟨b6, 0, none⟩)), (3, .pointer (some ⟨b4, 0, none⟩)), (4, .pointer (some ⟨b7, 0, none⟩)), (13, .int .i64 N), (14, .int .i64 b), (6, .int .i64 b), (7, .pointer (some ⟨bl, 0, none⟩)), (17, .slice A ps.length ca), (18, .int .i64 ps.length), (19, .int .i64 s.i)])
   (fun s => (bl, .cells ⟨[gSl (pick ps b s.i) s.b s.c]⟩ 37 (0, 0)) :: gM nE 3 (pick ps b s.i) s.b s.r) (fun s => ps.length - s.i) ⟨0, 0, 0, []⟩ ⟨Nat.zero_le _, fun h => absurd rfl h⟩ (by repeat (first|exact .nil|refine .cons rfl (by first|rfl|(congr 1; done)|exact congrArg _ (by omega)|(simp; done)) ?_)) (by repeat (first|exact .nil|refine .keep (by first|rfl|assumption) ?_|refine .drop ?_|exact MSub.refl _)) ?_
  rintro ⟨i, bb, cc, r⟩ ⟨hi, hg⟩
  simp only at hi hg ⊢
  obtain ⟨A', k', hA'⟩ := gSl_len (l := pick ps b i) (b := bb) (cap := cc)
  have hple := pick_le (ps := ps) (b := b) (i := i)
  by_cases hil : i < ps.length
  ·obtain ⟨q, hq⟩ : ∃ q, ps[i]? = some q := ⟨_, List.getElem?_eq_getElem hil⟩
   have hgd : ps.getD i 0 = q := by rw [List.getD_eq_getElem?_getD, hq]; rfl
   obtain ⟨b', o, rfl, he⟩ := hA.get hq
   rw [Nat.mul_one] at he
   have hsu := pick_succ (ps := ps) (b := b) (i := i)
   have hsr := bit_val (b := b) (i := i)
   have han := and_one (b / 2 ^ i)
   have hbd := bit_dec (b := b) (i := i)
   have hg' := fun (_ : Unit) => hg
   clear hg
   repeat (first|refine lVa rfl rfl (by first|exact pEv rfl|exact vL0 rfl (by assumption) rfl (by rfl)|exact v_index rfl rfl rfl rfl (by omega) (by omega) (by with_reducible first|exact idx2 _ _|fail)|fail) ?_|refine lNi ?_|refine cRg ?_|refine cSq ?_|refine xTh ?_|refine c_dec_t rfl (by first|omega|fail) ?_|refine cBl ?_|refine cSk ?_|refine lVa rfl rfl (v_shrA rfl rfl (by omega) hsr) ?_|refine lVa rfl rfl (v_andA rfl rfl han) ?_|fail)
   cases hbit : b.testBit i with
   | false =>
    rw [hbit] at hsu hbd
    rw [if_neg (by decide)] at hsu
    refine c_bf rfl hbd ?_
    repeat (first|refine lVa rfl rfl (by first|exact v_add rfl rfl (by omega) (by omega)|exact pEv rfl|fail) ?_|refine lNi ?_|refine cRg ?_|refine xTh ?_|refine cSk ?_|refine x_block ?_|fail)
    exact x_back ⟨i + 1, bb, cc, r⟩ ⟨hil, by rw [hsu]; exact hg' ()⟩ (by simp only; omega) (by simp only [hsu]; exact (by repeat (first|exact .nil|refine .cons rfl (by first|rfl|(congr 1; done)|exact congrArg _ (by omega)|(simp; done)) ?_))) (by simp only [hsu]; exact (by repeat (first|exact .nil|refine .keep (by first|rfl|assumption) ?_|refine .drop ?_|exact MSub.refl _)))
   | true =>
    rw [hbit] at hsu hbd
    rw [if_pos rfl, hgd] at hsu
    refine c_bt rfl hbd ?_
    rw [hA']
    repeat (first|refine lVa rfl rfl (by first|exact pEv rfl|exact vLd rfl (by repeat constructor) rfl (by rfl)|fail) ?_|refine cRg ?_|refine r_buildSlice rfl rfl rfl rfl rfl rfl (by rfl) (fun _ => ?_)|fail)
    refine r_appendZ (f := nE) (e := 3) (sz := 1) (xs := pick ps b i) (ys := [q]) (m := 1) rfl rfl (congrArg some hA'.symm) rfl rfl rfl rfl (.inr ⟨_, 0, rfl, news_own (by repeat constructor)⟩) (List.perm_append_comm (l₁ := [_, _])) (hg' ()) nE_rows rfl rfl (by omega) (by unfold maxLen; omega) (fun b8 c8 r8 hg8 => ?_)
    rw [<- hsu] at hg8 ⊢
    refine l_perm List.perm_append_comm ?_
    simp only [List.cons_append, List.nil_append]
    repeat (first|refine lVa rfl rfl (by first|exact v_add rfl rfl (by omega) (by omega)|exact pEv rfl|fail) ?_|refine lNi ?_|refine cRg ?_|refine xTh ?_|refine x_block ?_|refine rSt (vs := [_]) rfl rfl rfl gSl_cells rfl rfl gSl_one (by repeat constructor) (by rfl) ?_|fail)
    exact x_back ⟨i + 1, b8, c8, r8⟩ ⟨hil, hg8⟩ (by simp only; omega) (by repeat (first|exact .nil|refine .cons rfl (by first|rfl|(congr 1; done)|exact congrArg _ (by omega)|(simp; done)) ?_)) (by repeat (first|exact .nil|refine .keep (by first|rfl|assumption) ?_|refine .drop ?_|exact MSub.refl _))
  ·have hie : i = ps.length := by omega
   subst hie
   obtain ⟨S, hS⟩ : ∃ S, pick ps b ps.length = S := ⟨_, rfl⟩
   rw [hS] at hg hA' hple ⊢
   have hSub := pick_sub (ps := ps) (b := b) (Nat.le_refl ps.length)
   rw [List.take_length, hS] at hSub
   have hS6 : ∀ q ∈ S, q < 6 := fun q hq => hps q (hSub.subset hq)
   have hg' := fun (_ : Unit) => hg
   clear hg
   repeat (first|refine lVa rfl rfl (by first|exact pEv rfl|exact vL0 rfl (by assumption) rfl (by rfl)|fail) ?_|refine lNi ?_|refine cRg ?_|refine cSq ?_|refine xTh ?_|refine c_dec_f rfl (by first|omega|fail) ?_|refine c_exit ?_|refine xTe ?_|refine xBs ?_|fail)
   refine r_call (v := .bool (!okC must S)) rfl rfl rfl (fun W1 hW => ?_) ?_
   ·have hBa := hB.at hW
    have hr := containsF_calls 85 [] [.pointer (some ⟨bl, 0, none⟩)] (fun x => !(toI S).contains x) B cb (toI must) W1 (by rw [toI_rows]; exact hBa) (by rw [toI_len]; omega) fun x hx W' hW' => by
     obtain ⟨A2, c2, h1, h2⟩ := at_gM (cap := cc) hW (f := nE) (sz := 1) (l := S) (b := bb) (rest := r) (fun p hp => List.mem_cons_of_mem _ hp) (fun _ => rfl)
     have hcell := hW.cellAt (b := bl) (by repeat constructor) 0
     rw [h1] at hcell
     exact lacks_calls 85 (.inl rfl) x bl A2 c2 (toI S) W' (by rw [toI_len]; exact hW'.cell hcell) (by rw [toI_rows]; exact h2.later hW') (by rw [toI_len]; omega)
    rw [toI_len, any_ok] at hr
    exact hr
   have hsn := chN_succ (ps := ps) (must := must) (b := b)
   rw [hS] at hsn
   cases hok : okC must S with
   | false =>
    rw [hok, if_neg (by decide)] at hsn
    repeat (first|refine lVa rfl rfl (by first|exact v_add rfl rfl (by omega) (by omega)|exact pEv rfl|fail) ?_|refine lNi ?_|refine cRg ?_|refine xTh ?_|refine c_true rfl ?_|refine c_exit ?_|refine xTe ?_|refine xBs ?_|fail)
    refine x_backD (b + 1) (by omega) (by omega) rfl (by rw [hsn]) (by repeat (first|exact .nil|refine .cons rfl (by first|rfl|(congr 1; done)|exact congrArg _ (by omega)|(simp; done)) ?_)) (by repeat (first|exact .nil|refine .keep (by first|rfl|assumption) ?_|refine .drop ?_|exact MSub.refl _))
   | true =>
    rw [hok, if_pos rfl] at hsn
    have hat := chN_at (ps := ps) (must := must) (b := b) (by omega) (by rw [hS]; exact hok)
    rw [hS] at hat
    obtain ⟨hxl, hxe⟩ := List.getElem?_eq_some_iff.1 hat
    repeat (first|refine lVa rfl rfl (by first|exact vLd rfl (by repeat constructor) rfl (by rfl)|exact vL0 rfl (by assumption) rfl (by rfl)|fail) ?_|refine lNi ?_|refine cRg ?_|refine cSq ?_|refine xTh ?_|refine c_false rfl ?_|refine cSk ?_|fail)
    refine r_call (v := .agg ⟨plC k (putF f S (k + 1))⟩) rfl rfl rfl (fun W1 hW => ?_) ?_
    ·obtain ⟨A2, c2, h1, h2⟩ := at_gM (cap := cc) hW (f := nE) (sz := 1) (l := S) (b := bb) (rest := r) (fun p hp => List.mem_cons_of_mem _ hp) (fun _ => rfl)
     rw [h1]
     exact with_calls k f S A2 c2 W1 (by omega) hS6 (by omega) h2
    have hp0 := plC_0 (k := k) (f := putF f S (k + 1))
    repeat (first|refine r_alloc rfl rfl rfl (plC_zero rfl) (fun b2 => ?_)|refine rSt (vs := plC _ _) rfl rfl rfl rfl rfl plC_beq plC_one (by repeat constructor) (putAll (plC_len.trans plC_len.symm)) ?_|refine lVa rfl rfl (by first|exact v_add rfl rfl (by omega) (by omega)|exact pEv rfl|exact vLd rfl (by repeat constructor) rfl (by rfl)|exact vL0 rfl (by assumption) rfl (by rfl)|fail) ?_|refine lNi ?_|refine cRg ?_|refine cSq ?_|refine xTh ?_|refine rSt rfl rfl rfl rfl rfl rfl rfl (by repeat constructor) (by rfl) ?_|fail)
    refine l_yieldH (ms := gM nE 3 S bb r) rfl rfl rfl rfl rfl (List.perm_append_comm (l₁ := [_, _])) (cJ ((chN ps must b).length + 1)) (cJx (chN ps must b).length) (fun S' A' h1 h2 h3 h4 h5 => ?_) ?_ (fun W0 => ?_)
    ·have := hy (chN ps must b).length hxl S' A' [gSl S bb cc, .agg ⟨plC (k + later) (putF f S (k + 1))⟩] (gM nE 3 S bb r) (by rw [hxe]; exact ⟨bb, cc, r, hg' (), rfl, rfl⟩) h1 h2 h3 h4 h5
     exact this
    ·repeat (first|refine lVa rfl rfl (by first|exact v_add rfl rfl (by omega) (by omega)|exact pEv rfl|fail) ?_|refine lNi ?_|refine cRg ?_|refine xTh ?_|refine c_false rfl ?_|refine cSk ?_|refine x_block ?_|fail)
     exact x_backD (b + 1) (by omega) (by omega) rfl (by rw [hsn, List.length_append]; rfl) (by repeat (first|exact .nil|refine .cons rfl (by first|rfl|(congr 1; done)|exact congrArg _ (by omega)|(simp; done)) ?_)) (by repeat (first|exact .nil|refine .keep (by first|rfl|assumption) ?_|refine .drop ?_|exact MSub.refl _))
    ·repeat (first|refine lVa rfl rfl (by first|exact pEv rfl|fail) ?_|refine lNi ?_|refine xTh ?_|refine c_true rfl ?_|refine c_ret ?_|refine xTr ?_|refine xBr ?_|fail)
     exact x_ret rfl rfl (by repeat constructor) rfl (fun W hW => ⟨⟨_, rfl⟩, .inr ⟨_, hxl, _, hW.word⟩⟩)
 ·have hbe : b = N := by omega
  subst hbe
  repeat (first|refine lVa rfl rfl (by first|exact pEv rfl|fail) ?_|refine lNi ?_|refine cRg ?_|refine cSq ?_|refine xTh ?_|refine c_dec_f rfl (by first|omega|fail) ?_|refine c_exit ?_|refine xTe ?_|refine xBs ?_|fail)
  exact x_end rfl rfl (by repeat constructor) rfl (fun W hW => ⟨⟨_, rfl⟩, .inl ⟨_, by have := hW.word; rw [hN, chN_full] at this; exact this⟩⟩)
end R24
end Go.Proofs

namespace Go.Kin.Sg
open Classical
/-- the desk wins from a tick on -/
def Vt (G : Gm) (k : Nat) (l : List Int) : Prop := V G (G.T + 1 - k) k l
theorem Vt_end {G : Gm} {k : Nat} {l : List Int} (h : G.T < k) : Vt G k l ↔ keptP G l := by
 unfold Vt
 rw [show G.T + 1 - k = 0 by omega]
 rfl
theorem Vt_step {G : Gm} {k : Nat} {l : List Int} (h : k <= G.T) : Vt G k l ↔ ∀ S, Ch G k l S -> ∃ D, List.Sublist D (free G (put l S (k + 1))) /\ Vt G (k + 1) (put (put l S (k + 1)) D (k + 1)) := by
 unfold Vt
 rw [show G.T + 1 - k = (G.T + 1 - (k + 1)) + 1 by omega]
 rfl
noncomputable def goodD (G : Gm) (k : Nat) (q : List Int) (D : List Nat) : Bool := decide (Vt G (k + 1) (put q D (k + 1)))
/-- the desk's first good choice -/
noncomputable def fD (G : Gm) (k : Nat) (q : List Int) : Option (List Nat) := (allCh (free G q) []).find? (goodD G k q)
noncomputable def goodO (G : Gm) (k : Nat) (l : List Int) (S : List Nat) : Bool := !(fD G k (put l S (k + 1))).isSome
/-- the others' first good choice -/
noncomputable def fO (G : Gm) (k : Nat) (l : List Int) : Option (List Nat) := (allCh (may G k l) (due G k l)).find? (goodO G k l)
theorem fD_isSome {G : Gm} {k : Nat} {q : List Int} : (fD G k q).isSome = true ↔ ∃ D, List.Sublist D (free G q) /\ Vt G (k + 1) (put q D (k + 1)) := by
 unfold fD
 rw [List.find?_isSome]
 constructor
 ·rintro ⟨D, h1, h2⟩; exact ⟨D, free_ch.2 h1, of_decide_eq_true h2⟩
 ·rintro ⟨D, h1, h2⟩; exact ⟨D, free_ch.1 h1, decide_eq_true h2⟩
theorem fO_isSome {G : Gm} {k : Nat} {l : List Int} (hk : k <= G.T) : (fO G k l).isSome = true ↔ ¬ Vt G k l := by
 unfold fO
 rw [List.find?_isSome, Vt_step hk]
 constructor
 ·rintro ⟨S, h1, h2⟩ h
  unfold goodO at h2
  rw [fD_isSome.2 (h S (ch_mem.2 h1))] at h2
  cases h2
 ·intro h
  apply Classical.byContradiction
  intro h2
  apply h
  intro S hS
  apply Classical.byContradiction
  intro h3
  refine h2 ⟨S, ch_mem.1 hS, ?_⟩
  unfold goodO
  cases h4 : (fD G k (put l S (k + 1))).isSome with
  | false => rfl
  | true => exact absurd (fD_isSome.1 h4) h3
noncomputable def vB (G : Gm) (k : Nat) (l : List Int) : Bool := decide (Vt G k l)
theorem vB_step {G : Gm} {k : Nat} {l : List Int} (hk : k <= G.T) : vB G k l = !(fO G k l).isSome := by
 unfold vB
 have h := fO_isSome (l := l) hk
 cases h2 : (fO G k l).isSome with
 | true => rw [decide_eq_false (h.1 h2)]; rfl
 | false => rw [decide_eq_true (Classical.byContradiction fun g => by rw [h.2 g] at h2; cases h2)]; rfl
theorem vB_end {G : Gm} {k : Nat} {l : List Int} (hk : G.T < k) : vB G k l = decide (keptP G l) := by
 unfold vB
 exact decide_eq_decide.2 (Vt_end hk)
theorem fD_some {G : Gm} {k : Nat} {q : List Int} {D : List Nat} (h : fD G k q = some D) : List.Sublist D (free G q) /\ Vt G (k + 1) (put q D (k + 1)) :=
 ⟨free_ch.2 (List.mem_of_find?_eq_some h), of_decide_eq_true (show goodD G k q D = true from List.find?_some h)⟩
theorem fO_some {G : Gm} {k : Nat} {l : List Int} {S : List Nat} (h : fO G k l = some S) : Ch G k l S /\ ∀ D, List.Sublist D (free G (put l S (k + 1))) -> ¬ Vt G (k + 1) (put (put l S (k + 1)) D (k + 1)) := by
 refine ⟨ch_mem.2 (List.mem_of_find?_eq_some h), fun D h1 h2 => ?_⟩
 have h3 := List.find?_some h
 unfold goodO at h3
 rw [fD_isSome.2 ⟨D, h1, h2⟩] at h3
 cases h3
/-! ## What Solve and Spoil play -/
noncomputable def gD (G : Gm) (k : Nat) (q : List Int) : List Nat := (fD G k q).getD []
noncomputable def gO (G : Gm) (k : Nat) (l : List Int) : List Nat := (fO G k l).getD []
theorem gD_good {G : Gm} {k : Nat} {l : List Int} {S : List Nat} (hk : k <= G.T) (hS : Ch G k l S) (hv : Vt G k l) : fD G k (put l S (k + 1)) = some (gD G k (put l S (k + 1))) /\ List.Sublist (gD G k (put l S (k + 1))) (free G (put l S (k + 1))) /\ Vt G (k + 1) (put (put l S (k + 1)) (gD G k (put l S (k + 1))) (k + 1)) := by
 have h1 := fD_isSome.2 ((Vt_step hk).1 hv S hS)
 obtain ⟨D, hD⟩ := Option.isSome_iff_exists.1 h1
 have e : gD G k (put l S (k + 1)) = D := by unfold gD; rw [hD]; rfl
 rw [e]
 exact ⟨hD, fD_some hD⟩
theorem gO_good {G : Gm} {k : Nat} {l : List Int} (hk : k <= G.T) (hv : ¬ Vt G k l) : fO G k l = some (gO G k l) /\ Ch G k l (gO G k l) /\ ∀ D, List.Sublist D (free G (put l (gO G k l) (k + 1))) -> ¬ Vt G (k + 1) (put (put l (gO G k l) (k + 1)) D (k + 1)) := by
 have h1 := (fO_isSome hk).2 hv
 obtain ⟨S, hS⟩ := Option.isSome_iff_exists.1 h1
 have e : gO G k l = S := by unfold gO; rw [hS]; rfl
 rw [e]
 exact ⟨hS, fO_some hS⟩
/-- a decision: a tick, what is known, what is done -/
structure Dec where
 k : Int
 l : List Int
 d : List Int
def decN (k : Nat) (l : List Int) (d : List Nat) : Dec := ⟨k, l, d.map fun x : Nat => (x : Int)⟩
def dec1 (k : Nat) (l : List Int) (d : List Nat) : List Dec := if d = [] then [] else [decN k l d]
abbrev Pos := Nat × List Int
noncomputable def nxD (G : Gm) (p : Pos) : List Pos := (allCh (may G p.1 p.2) (due G p.1 p.2)).map fun S => (p.1 + 1, put (put p.2 S (p.1 + 1)) (gD G p.1 (put p.2 S (p.1 + 1))) (p.1 + 1))
noncomputable def adD (G : Gm) (p : Pos) : List Dec := (allCh (may G p.1 p.2) (due G p.1 p.2)).flatMap fun S => dec1 p.1 (put p.2 S (p.1 + 1)) (gD G p.1 (put p.2 S (p.1 + 1)))
noncomputable def nxO (G : Gm) (p : Pos) : List Pos := (allCh (free G (put p.2 (gO G p.1 p.2) (p.1 + 1))) []).map fun D => (p.1 + 1, put (put p.2 (gO G p.1 p.2) (p.1 + 1)) D (p.1 + 1))
noncomputable def adO (G : Gm) (p : Pos) : List Dec := dec1 p.1 p.2 (gO G p.1 p.2)
end Go.Kin.Sg

/-! How far the numbers can go in the loops, and loops as folds over what has come. Plain Lean. -/
namespace Go.Kin.St

end Go.Kin.St

/-! What Accepts asks, and what it means. Plain Lean. -/
namespace Go.Kin.St

structure Us where
 link : Int
 lower : Bool
deriving DecidableEq

/-- The step of a use, if there is such a link. -/
def stepOf (l : List Lk) (u : Us) : Option Ed :=
 if 0 <= u.link then (l[u.link.toNat]?).map (fun x => if u.lower = true then dn x else up x) else none

/-- The walk along uses: the sum, if each is met and begins where the last ended. -/
def run (l : List Lk) : Nat -> Int -> List Us -> Option Int
 | _, s, [] => some s
 | p, s, u :: us => match stepOf l u with
   | none => none
   | some e => if e.a = p then run l e.b (s + e.w) us else none

/-- Where the last use ends (0 where there is no such link). -/
def lastEnd (l : List Lk) (us : List Us) : Nat := match us.getLast? with
 | none => 0
 | some u => match stepOf l u with
   | none => 0
   | some e => e.b

def accepts (l : List Lk) (us : List Us) : Bool := match run l (lastEnd l us) 0 us with
 | none => false
 | some s => decide (s < 0)

/-- In the specification: all links are there, and then the walk. -/
def known (l : List Lk) (us : List Us) : Bool := us.all (fun u => decide (0 <= u.link) && decide (u.link < l.length))

end Go.Kin.St
