/- Games on networks: the iterator over the sets that a side may choose. -/
import Derived.Test.YtcodoembnjemkaaSgE
import Derived.Test.YtcodoembnjemkaaSgVb
import Derived.Test.YtcodoembnjemkaaTy
import Derived.Test.YtcodoembnjemkaaEng6
set_option maxRecDepth 100000
set_option maxHeartbeats 400000000
set_option linter.unusedSectionVars false
set_option linter.unusedVariables false
set_option linter.unusedSimpArgs false
namespace Go.Proofs
open Go.RowKit Go.Kin Go.Kin.St Go.Kin.Ct Go.Kin.Sg
namespace R24
def toI (l : List Nat) : List Int := l.map fun x : Nat => (x : Int)
theorem toI_len {l : List Nat} : (toI l).length = l.length := List.length_map ..
theorem toI_rows {l : List Nat} : (toI l).map inE = l.map nE := by unfold toI; rw [List.map_map]; rfl
theorem toI_mem {l : List Nat} {x : Nat} : (x : Int) ∈ toI l ↔ x ∈ l := by
 unfold toI
 rw [List.mem_map]
 constructor
 ·rintro ⟨y, hy, e⟩
  rwa [show y = x by omega] at hy
 ·intro h; exact ⟨x, h, rfl⟩
theorem any_ok {must S : List Nat} : ((toI must).any fun x => !(toI S).contains x) = !okC must S := by
 have h := allIn_iff (l := toI must) (m := toI S)
 unfold allIn at h
 cases ho : okC must S with
 | true =>
  rw [okC_iff] at ho
  have := h.2 fun x hx => by
   obtain ⟨y, hy, rfl⟩ := List.mem_map.1 hx
   exact toI_mem.2 (ho y hy)
  rw [Bool.not_eq_true'] at this
  rw [this]; rfl
 | false =>
  cases h2 : (toI must).any fun x => !(toI S).contains x with
  | true => rfl
  | false =>
   rw [h2] at h
   have h3 := h.1 rfl
   have : okC must S = true := okC_iff.2 fun x hx => toI_mem.1 (h3 x (toI_mem.2 hx))
   rw [ho] at this; cases this
/-- a set with its position, and the memory that it brings -/
def chH (k : Int) (f : Nat -> Int) (later : Int) (S : List Nat) (vs : List Value) (ms : List (Nat × Obj)) : Prop :=
 ∃ b cap rest, gOK nE 1 S cap rest /\ vs = [gSl S b cap, .agg ⟨plC (k + later) (putF f S (k + 1))⟩] /\ ms = gM nE 3 S b rest
theorem bit_val {b i : Nat} : ((b : Int) / 2 ^ i) = ((b / 2 ^ i : Nat) : Int) := by
 rw [Int.natCast_ediv, Int.natCast_pow]; rfl
theorem and_one (q : Nat) : bits .and .i64 (q : Int) 1 = ((q % 2 : Nat) : Int) := by
 have h := and_low (q : Int) 1 (by omega)
 rw [show ((2 : Int) ^ 1 - 1) = 1 by decide, show ((2 : Int) ^ 1) = 2 by decide] at h
 rw [h]; omega
theorem bit_dec {b i : Nat} : decide ((((b / 2 ^ i % 2 : Nat)) : Int) = 1) = b.testBit i := by
 rw [Nat.testBit_eq_decide_div_mod_eq]
 exact decide_eq_decide.2 (by omega)
structure PS where
 i : Nat
 b : Nat
 c : Nat
 r : List Value
theorem gSl_one {α : Type} {l : List α} {b cap : Nat} : allOne [gSl l b cap] = true := by cases l <;> rfl
theorem gSl_cells {α : Type} {l : List α} {b cap : Nat} : cellsL (gSl l b cap) = [gSl l b cap] := by cases l <;> rfl
theorem at_gM {α : Type} {w0 W : World} {D : Nat -> Prop} {J : (Nat -> Prop) -> World -> Prop} {mem : List (Nat × Obj)} {f : α -> List Value} {T : TypeId} {sz : Nat} {l : List α} {b cap : Nat} {rest : List Value} (hW : SatW w0 D J mem W) (h : ∀ p ∈ gM f T l b rest, p ∈ mem)
  (hsz : ∀ x, (f x).length = sz) : ∃ A c, gSl l b cap = .slice A l.length c /\ At W A sz (l.map f) := by
 cases l with
 | nil => exact ⟨none, 0, rfl, fun i cs hi => by simp at hi⟩
 | cons x l =>
  refine ⟨_, _, rfl, ?_⟩
  have hm := h _ List.mem_cons_self
  exact hW.rows (b := b) (rest := rest) hm rfl (fun r hr => by obtain ⟨y, _, rfl⟩ := List.mem_map.1 hr; exact hsz y)
theorem choices_it (R : Nat -> Prop) (b4 b5 b6 b7 : Nat) (A B : Option Addr) (ca cb : Nat) (k : Int) (f : Nat -> Int) (ps must : List Nat) (later : Int) (W : World) (hR : ∀ x, R x -> x < W.heap.size)
  (hE1 : Ext W R b5 0 [.slice A ps.length ca]) (hE2 : Ext W R b6 0 [.slice B must.length cb]) (hE3 : Ext W R b4 0 (plC k f)) (hE4 : Ext W R b7 0 [.int .i64 later]) (hA : Ar W R A 1 (ps.map nE)) (hB : Ar W R B 1 (must.map nE))
  (hn : ps.length <= 6) (hmu : must.length <= 6) (hps : ∀ q ∈ ps, q < 6) (hk : 0 <= k /\ k <= 100) (hla : 0 <= later /\ later <= 1) :
  ItH Try.prog 96 [.pointer (some ⟨b5, 0, none⟩), .pointer (some ⟨b6, 0, none⟩), .pointer (some ⟨b4, 0, none⟩), .pointer (some ⟨b7, 0, none⟩)] (chH k f later) (allCh ps must) R W := by
 intro lp J Jx cJ cJx hy h0
 have hs : SatW W R (J 0) [] W := ⟨Same.refl _ _, hR, List.nodup_nil, fun p hp => (by cases hp), cJ 0, cJ 0 _ _ _ _ h0 (Same.refl _ _) fun b hb => (by cases hb)⟩
 have hp2 : (2 : Nat) ^ ps.length <= 64 := Nat.le_trans (Nat.pow_le_pow_right (by omega) hn) (by decide)
 obtain ⟨N, hN⟩ : ∃ N : Nat, N = 2 ^ ps.length := ⟨_, rfl⟩
 rw [<- hN] at hp2
 have hsh : IntKind.i64.wrap (1 * 2 ^ ps.length) = (N : Int) := by
  have e : (1 : Int) * 2 ^ ps.length = (N : Int) := by rw [hN, Int.natCast_pow, Int.one_mul]; rfl
  rw [e]; exact wrap_i64 (by omega) (by omega)
 refine fun_enter Try.func96 rfl Try.ntmps96 rfl rfl hs ?_
 repeat (first|refine l_val rfl rfl (by first|exact pureEval_ok rfl|exact v_load_ext0 rfl (by assumption) rfl (by rfl)|fail) ?_|refine l_nil ?_|refine c_region ?_|refine c_seq ?_|refine x_then ?_|refine c_block ?_|refine l_val rfl rfl (v_shlA rfl rfl (by omega) hsh) ?_|fail)
 refine c_loopD (ι := Nat) (fun b => b <= N) (fun _ => []) (fun b => J (chN ps must b).length) (fun b => [(0, .func (.yield lp) ⟨[]⟩ ⟨[]⟩), (1, .pointer (some ⟨b5, 0, none⟩)), (2, .pointer (some ⟨b6, 0, none⟩)), (3, .pointer (some ⟨b4, 0, none⟩)), (4, .pointer (some ⟨b7, 0, none⟩)), (13, .int .i64 N), (14, .int .i64 b)]) (fun _ => []) (fun b => N - b) 0 (by omega) rfl rfl (by repeat (first|exact .nil|refine .cons rfl (by first|rfl|(congr 1; done)|exact congrArg _ (by omega)|(simp; done)) ?_)) (by repeat (first|exact .nil|refine .keep (by first|rfl|assumption) ?_|refine .drop ?_|exact MSub.refl _)) ?_
 intro b hb
 by_cases hlt : b < N
 ·repeat (first|refine l_val rfl rfl (by first|exact pureEval_ok rfl|exact v_load_ext0 rfl (by assumption) rfl (by rfl)|fail) ?_|refine l_nil ?_|refine c_region ?_|refine c_seq ?_|refine x_then ?_|refine r_alloc rfl rfl rfl (by first|exact aggL|fail) (fun _ => ?_)|refine c_dec_t rfl (by first|omega|fail) ?_|refine c_block ?_|refine c_skip ?_|fail)
  rename_i bl
  refine c_loop (ι := PS) (fun s => s.i <= ps.length /\ gOK nE 1 (pick ps b s.i) s.c s.r) (fun s => [(0, .func (.yield lp) ⟨[]⟩ ⟨[]⟩), (1, .pointer (some ⟨b5, 0, none⟩)), (2, .pointer (some ⟨b6, 0, none⟩)), (3, .pointer (some ⟨b4, 0, none⟩)), (4, .pointer (some ⟨b7, 0, none⟩)), (13, .int .i64 N), (14, .int .i64 b), (6, .int .i64 b), (7, .pointer (some ⟨bl, 0, none⟩)), (17, .slice A ps.length ca), (18, .int .i64 ps.length), (19, .int .i64 s.i)])
   (fun s => (bl, .cells ⟨[gSl (pick ps b s.i) s.b s.c]⟩ 26 (0, 0)) :: gM nE 3 (pick ps b s.i) s.b s.r) (fun s => ps.length - s.i) ⟨0, 0, 0, []⟩ ⟨Nat.zero_le _, fun h => absurd rfl h⟩ (by repeat (first|exact .nil|refine .cons rfl (by first|rfl|(congr 1; done)|exact congrArg _ (by omega)|(simp; done)) ?_)) (by repeat (first|exact .nil|refine .keep (by first|rfl|assumption) ?_|refine .drop ?_|exact MSub.refl _)) ?_
  rintro ⟨i, bb, cc, r⟩ ⟨hi, hg⟩
  simp only at hi hg ⊢
  obtain ⟨A', k', hA'⟩ := gSl_len (l := pick ps b i) (b := bb) (cap := cc)
  have hple := pick_le (ps := ps) (b := b) (i := i)
  by_cases hil : i < ps.length
  ·obtain ⟨q, hq⟩ : ∃ q, ps[i]? = some q := ⟨_, List.getElem?_eq_getElem hil⟩
   have hgd : ps.getD i 0 = q := by rw [List.getD_eq_getElem?_getD, hq]; rfl
   obtain ⟨b', o, rfl, he⟩ := hA.get hq
   rw [Nat.mul_one] at he
   have hsu := pick_succ (ps := ps) (b := b) (i := i)
   have hsr := bit_val (b := b) (i := i)
   have han := and_one (b / 2 ^ i)
   have hbd := bit_dec (b := b) (i := i)
   have hg' := fun (_ : Unit) => hg
   clear hg
   repeat (first|refine l_val rfl rfl (by first|exact pureEval_ok rfl|exact v_load_ext0 rfl (by assumption) rfl (by rfl)|exact v_index rfl rfl rfl rfl (by omega) (by omega) (by with_reducible first|exact idx2 _ _|fail)|fail) ?_|refine l_nil ?_|refine c_region ?_|refine c_seq ?_|refine x_then ?_|refine c_dec_t rfl (by first|omega|fail) ?_|refine c_block ?_|refine c_skip ?_|refine l_val rfl rfl (v_shrA rfl rfl (by omega) hsr) ?_|refine l_val rfl rfl (v_andA rfl rfl han) ?_|fail)
   cases hbit : b.testBit i with
   | false =>
    rw [hbit] at hsu hbd
    rw [if_neg (by decide)] at hsu
    refine c_bf rfl hbd ?_
    repeat (first|refine l_val rfl rfl (by first|exact v_add rfl rfl (by omega) (by omega)|exact pureEval_ok rfl|fail) ?_|refine l_nil ?_|refine c_region ?_|refine x_then ?_|refine c_skip ?_|refine x_block ?_|fail)
    exact x_back ⟨i + 1, bb, cc, r⟩ ⟨hil, by rw [hsu]; exact hg' ()⟩ (by simp only; omega) (by simp only [hsu]; exact (by repeat (first|exact .nil|refine .cons rfl (by first|rfl|(congr 1; done)|exact congrArg _ (by omega)|(simp; done)) ?_))) (by simp only [hsu]; exact (by repeat (first|exact .nil|refine .keep (by first|rfl|assumption) ?_|refine .drop ?_|exact MSub.refl _)))
   | true =>
    rw [hbit] at hsu hbd
    rw [if_pos rfl, hgd] at hsu
    refine c_bt rfl hbd ?_
    rw [hA']
    repeat (first|refine l_val rfl rfl (by first|exact pureEval_ok rfl|exact v_load rfl (by repeat constructor) rfl (by rfl)|fail) ?_|refine c_region ?_|refine r_buildSlice rfl rfl rfl rfl rfl rfl (by rfl) (fun _ => ?_)|fail)
    refine r_appendZ (f := nE) (e := 3) (sz := 1) (xs := pick ps b i) (ys := [q]) (m := 1) rfl rfl (congrArg some hA'.symm) rfl rfl rfl rfl (.inr ⟨_, 0, rfl, news_own (by repeat constructor)⟩) (List.perm_append_comm (l₁ := [_, _])) (hg' ()) nE_rows rfl rfl (by omega) (by unfold maxLen; omega) (fun b8 c8 r8 hg8 => ?_)
    rw [<- hsu] at hg8 ⊢
    refine l_perm List.perm_append_comm ?_
    simp only [List.cons_append, List.nil_append]
    repeat (first|refine l_val rfl rfl (by first|exact v_add rfl rfl (by omega) (by omega)|exact pureEval_ok rfl|fail) ?_|refine l_nil ?_|refine c_region ?_|refine x_then ?_|refine x_block ?_|refine r_store (vs := [_]) rfl rfl rfl gSl_cells rfl rfl gSl_one (by repeat constructor) (by rfl) ?_|fail)
    exact x_back ⟨i + 1, b8, c8, r8⟩ ⟨hil, hg8⟩ (by simp only; omega) (by repeat (first|exact .nil|refine .cons rfl (by first|rfl|(congr 1; done)|exact congrArg _ (by omega)|(simp; done)) ?_)) (by repeat (first|exact .nil|refine .keep (by first|rfl|assumption) ?_|refine .drop ?_|exact MSub.refl _))
  ·have hie : i = ps.length := by omega
   subst hie
   obtain ⟨S, hS⟩ : ∃ S, pick ps b ps.length = S := ⟨_, rfl⟩
   rw [hS] at hg hA' hple ⊢
   have hSub := pick_sub (ps := ps) (b := b) (Nat.le_refl ps.length)
   rw [List.take_length, hS] at hSub
   have hS6 : ∀ q ∈ S, q < 6 := fun q hq => hps q (hSub.subset hq)
   have hg' := fun (_ : Unit) => hg
   clear hg
   repeat (first|refine l_val rfl rfl (by first|exact pureEval_ok rfl|exact v_load_ext0 rfl (by assumption) rfl (by rfl)|fail) ?_|refine l_nil ?_|refine c_region ?_|refine c_seq ?_|refine x_then ?_|refine c_dec_f rfl (by first|omega|fail) ?_|refine c_exit ?_|refine x_then_exit ?_|refine x_block_same ?_|fail)
   refine r_call (v := .bool (!okC must S)) rfl rfl rfl (fun W1 hW => ?_) ?_
   ·have hBa := hB.at hW
    have hr := containsF_calls 97 [] [.pointer (some ⟨bl, 0, none⟩)] (fun x => !(toI S).contains x) B cb (toI must) W1 (by rw [toI_rows]; exact hBa) (by rw [toI_len]; omega) fun x hx W' hW' => by
     obtain ⟨A2, c2, h1, h2⟩ := at_gM (cap := cc) hW (f := nE) (sz := 1) (l := S) (b := bb) (rest := r) (fun p hp => List.mem_cons_of_mem _ hp) (fun _ => rfl)
     have hcell := hW.cellAt (b := bl) (by repeat constructor) 0
     rw [h1] at hcell
     exact lacks_calls 97 (.inl rfl) x bl A2 c2 (toI S) W' (by rw [toI_len]; exact hW'.cell hcell) (by rw [toI_rows]; exact h2.later hW') (by rw [toI_len]; omega)
    rw [toI_len, any_ok] at hr
    exact hr
   have hsn := chN_succ (ps := ps) (must := must) (b := b)
   rw [hS] at hsn
   cases hok : okC must S with
   | false =>
    rw [hok, if_neg (by decide)] at hsn
    repeat (first|refine l_val rfl rfl (by first|exact v_add rfl rfl (by omega) (by omega)|exact pureEval_ok rfl|fail) ?_|refine l_nil ?_|refine c_region ?_|refine x_then ?_|refine c_true rfl ?_|refine c_exit ?_|refine x_then_exit ?_|refine x_block_same ?_|fail)
    refine x_backD (b + 1) (by omega) (by omega) rfl (by rw [hsn]) (by repeat (first|exact .nil|refine .cons rfl (by first|rfl|(congr 1; done)|exact congrArg _ (by omega)|(simp; done)) ?_)) (by repeat (first|exact .nil|refine .keep (by first|rfl|assumption) ?_|refine .drop ?_|exact MSub.refl _))
   | true =>
    rw [hok, if_pos rfl] at hsn
    have hat := chN_at (ps := ps) (must := must) (b := b) (by omega) (by rw [hS]; exact hok)
    rw [hS] at hat
    obtain ⟨hxl, hxe⟩ := List.getElem?_eq_some_iff.1 hat
    repeat (first|refine l_val rfl rfl (by first|exact v_load rfl (by repeat constructor) rfl (by rfl)|exact v_load_ext0 rfl (by assumption) rfl (by rfl)|fail) ?_|refine l_nil ?_|refine c_region ?_|refine c_seq ?_|refine x_then ?_|refine c_false rfl ?_|refine c_skip ?_|fail)
    refine r_call (v := .agg ⟨plC k (putF f S (k + 1))⟩) rfl rfl rfl (fun W1 hW => ?_) ?_
    ·obtain ⟨A2, c2, h1, h2⟩ := at_gM (cap := cc) hW (f := nE) (sz := 1) (l := S) (b := bb) (rest := r) (fun p hp => List.mem_cons_of_mem _ hp) (fun _ => rfl)
     rw [h1]
     exact with_calls k f S A2 c2 W1 (by omega) hS6 (by omega) h2
    have hp0 := plC_0 (k := k) (f := putF f S (k + 1))
    repeat (first|refine r_alloc rfl rfl rfl (plC_zero rfl) (fun b2 => ?_)|refine r_store (vs := plC _ _) rfl rfl rfl rfl rfl plC_beq plC_one (by repeat constructor) (putAll (plC_len.trans plC_len.symm)) ?_|refine l_val rfl rfl (by first|exact v_add rfl rfl (by omega) (by omega)|exact pureEval_ok rfl|exact v_load rfl (by repeat constructor) rfl (by rfl)|exact v_load_ext0 rfl (by assumption) rfl (by rfl)|fail) ?_|refine l_nil ?_|refine c_region ?_|refine c_seq ?_|refine x_then ?_|refine r_store rfl rfl rfl rfl rfl rfl rfl (by repeat constructor) (by rfl) ?_|fail)
    refine l_yieldH (ms := gM nE 3 S bb r) rfl rfl rfl rfl rfl (List.perm_append_comm (l₁ := [_, _])) (cJ ((chN ps must b).length + 1)) (cJx (chN ps must b).length) (fun S' A' h1 h2 h3 h4 h5 => ?_) ?_ (fun W0 => ?_)
    ·have := hy (chN ps must b).length hxl S' A' [gSl S bb cc, .agg ⟨plC (k + later) (putF f S (k + 1))⟩] (gM nE 3 S bb r) (by rw [hxe]; exact ⟨bb, cc, r, hg' (), rfl, rfl⟩) h1 h2 h3 h4 h5
     exact this
    ·repeat (first|refine l_val rfl rfl (by first|exact v_add rfl rfl (by omega) (by omega)|exact pureEval_ok rfl|fail) ?_|refine l_nil ?_|refine c_region ?_|refine x_then ?_|refine c_false rfl ?_|refine c_skip ?_|refine x_block ?_|fail)
     exact x_backD (b + 1) (by omega) (by omega) rfl (by rw [hsn, List.length_append]; rfl) (by repeat (first|exact .nil|refine .cons rfl (by first|rfl|(congr 1; done)|exact congrArg _ (by omega)|(simp; done)) ?_)) (by repeat (first|exact .nil|refine .keep (by first|rfl|assumption) ?_|refine .drop ?_|exact MSub.refl _))
    ·repeat (first|refine l_val rfl rfl (by first|exact pureEval_ok rfl|fail) ?_|refine l_nil ?_|refine x_then ?_|refine c_true rfl ?_|refine c_ret ?_|refine x_then_ret ?_|refine x_block_ret ?_|fail)
     exact x_ret rfl rfl (by repeat (first|exact .nil|(apply Res.tmp; rfl)|(apply Res.cell; rfl; exact (by repeat constructor); rfl; rfl))) rfl (fun W hW => ⟨⟨_, rfl⟩, .inr ⟨_, hxl, _, hW.word⟩⟩)
 ·have hbe : b = N := by omega
  subst hbe
  repeat (first|refine l_val rfl rfl (by first|exact pureEval_ok rfl|fail) ?_|refine l_nil ?_|refine c_region ?_|refine c_seq ?_|refine x_then ?_|refine c_dec_f rfl (by first|omega|fail) ?_|refine c_exit ?_|refine x_then_exit ?_|refine x_block_same ?_|fail)
  exact x_end rfl rfl (by repeat (first|exact .nil|(apply Res.tmp; rfl)|(apply Res.cell; rfl; exact (by repeat constructor); rfl; rfl))) rfl (fun W hW => ⟨⟨_, rfl⟩, .inl ⟨_, by have := hW.word; rw [hN, chN_full] at this; exact this⟩⟩)
end R24
end Go.Proofs

/-! How far the numbers can go in the loops, and loops as folds over what has come. Plain Lean. -/
namespace Go.Kin.St

end Go.Kin.St

/-! What Accepts asks, and what it means. Plain Lean. -/
namespace Go.Kin.St

structure Us where
 link : Int
 lower : Bool
deriving DecidableEq

/-- The step of a use, if there is such a link. -/
def stepOf (l : List Lk) (u : Us) : Option Ed :=
 if 0 <= u.link then (l[u.link.toNat]?).map (fun x => if u.lower = true then dn x else up x) else none

/-- The walk along uses: the sum, if each is met and begins where the last ended. -/
def run (l : List Lk) : Nat -> Int -> List Us -> Option Int
 | _, s, [] => some s
 | p, s, u :: us => match stepOf l u with
   | none => none
   | some e => if e.a = p then run l e.b (s + e.w) us else none

/-- In the specification: all links are there, and then the walk. -/
def known (l : List Lk) (us : List Us) : Bool := us.all (fun u => decide (0 <= u.link) && decide (u.link < l.length))

end Go.Kin.St

namespace Go.Proofs
open Go.RowKit Go.Kin Go.Kin.St
namespace R22
def lkE (x : Lk) : List Value := [.int .i64 x.fr, .int .i64 x.to, .int .i64 x.lo, .int .i64 x.hi]
/-- A step as the iterator yields it. -/
structure RS where
 i : Nat
 lower : Bool
 a : Int
 b : Int
 w : Int
def rawFrom : Nat -> List Lk -> List RS
 | _, [] => []
 | i, x :: l => ⟨i, false, x.fr, x.to, x.hi⟩ :: ⟨i, true, x.to, x.fr, -x.lo⟩ :: rawFrom (i + 1) l
def raw (l : List Lk) : List RS := rawFrom 0 l
def rsE (s : RS) : List Value := [.agg ⟨[.int .i64 s.i, .bool s.lower]⟩, .agg ⟨[.int .i64 s.a, .int .i64 s.b, .int .i64 s.w]⟩]

theorem rawFrom_len (i : Nat) (l : List Lk) : (rawFrom i l).length = 2 * l.length := by
 induction l generalizing i with
 | nil => rfl
 | cons x l ih => simp only [rawFrom, List.length_cons, ih]; omega
theorem rawFrom_get (i : Nat) (l : List Lk) (k : Nat) (x : Lk) (h : l[k]? = some x) :
  (rawFrom i l)[2 * k]? = some ⟨i + k, false, x.fr, x.to, x.hi⟩ /\ (rawFrom i l)[2 * k + 1]? = some ⟨i + k, true, x.to, x.fr, -x.lo⟩ := by
 induction l generalizing i k with
 | nil => cases h
 | cons y l ih =>
  cases k with
  | zero => cases h; exact ⟨rfl, rfl⟩
  | succ k =>
   have := ih (i + 1) k h
   rw [show 2 * (k + 1) = 2 * k + 1 + 1 by omega, show i + (k + 1) = i + 1 + k by omega]
   exact this
theorem raw_len (l : List Lk) : (raw l).length = 2 * l.length := rawFrom_len 0 l
theorem raw_get {l : List Lk} {k : Nat} {x : Lk} (h : l[k]? = some x) :
  (raw l)[2 * k]? = some ⟨k, false, x.fr, x.to, x.hi⟩ /\ (raw l)[2 * k + 1]? = some ⟨k, true, x.to, x.fr, -x.lo⟩ := by
 have := rawFrom_get 0 l k x h
 rw [Nat.zero_add] at this
 exact this

def netCells (n : Int) (A : Option Addr) (len cap : Nat) : List Value := [.int .i64 n, .slice A len cap]

theorem steps_calls (n : Int) (A : Option Addr) (len cap : Nat) (w : World) :
  Calls Try.prog 54 ⟨[.agg ⟨netCells n A len cap⟩]⟩ w fun e w' => ∃ b, e = .returned (.func (.func 84) ⟨[]⟩ ⟨[.pointer (some ⟨b, 0, none⟩)]⟩) /\ Below w.heap.size w w' /\ w.heap.size <= b /\ w'.heap[b]? = some (.cells ⟨netCells n A len cap⟩ 49 (0, 0)) := by
 refine fun_enter Try.func54 rfl Try.ntmps54 rfl rfl (satW_nil w) ?_
 repeat (first|refine l_val rfl rfl (by first|exact pureEval_ok rfl|fail) ?_|refine l_nil ?_|refine c_region ?_|refine c_seq ?_|refine x_then ?_|refine r_box rfl rfl rfl rfl (fun _ => ?_)|refine c_ret ?_|fail)
 refine x_ret rfl rfl (by repeat (first|exact .nil|(apply Res.tmp; rfl)|(apply Res.cell; rfl; exact (by repeat constructor); rfl; rfl))) rfl (fun W hW => ?_)
 have h := hW.own _ (by repeat constructor)
 exact ⟨_, rfl, hW.below, Nat.le_of_not_lt h.1, h.2⟩

theorem steps_it (R : Nat -> Prop) (b : Nat) (n : Int) (A : Option Addr) (cap : Nat) (l : List Lk) (W : World) (hl : l.length <= 1000) (hbox : W.heap[b]? = some (.cells ⟨netCells n A l.length cap⟩ 49 (0, 0))) (hA : At W A 4 (l.map lkE)) (hF : Fine n l) (hn : n <= 64)
  (hR : ∀ k, R k -> k < W.heap.size) (hRb : R b) (hRA : ∀ a, A = some a -> l ≠ [] -> R a.block) :
  It Try.prog 84 [.pointer (some ⟨b, 0, none⟩)] rsE (raw l) R W := by
 intro lp J Jx cJ cJx hy h0
 have hb : Ext W R b 0 (netCells n A l.length cap) := ⟨hRb, fun i v hi => by
  unfold World.cell?; rw [hbox, Nat.zero_add]; simpa using hi⟩
 have hs : SatW W R (J 0) [] W := ⟨Same.refl _ _, hR, List.nodup_nil, fun p hp => (by cases hp), cJ 0, cJ 0 _ _ _ _ h0 (Same.refl _ _) fun b hb => (by cases hb)⟩
 refine fun_enter Try.func84 rfl Try.ntmps84 rfl rfl hs ?_
 repeat (first|refine l_val rfl rfl (by first|exact pureEval_ok rfl|exact v_load_ext rfl (by assumption) rfl (by rfl)|fail) ?_|refine l_nil ?_|refine c_region ?_|refine c_seq ?_|refine x_then ?_|refine c_block ?_|fail)
 refine c_loopD (ι := Nat) (fun k => k <= l.length) (fun _ => []) (fun k => J (2 * k)) (fun k => [(0, .func (.yield lp) ⟨[]⟩ ⟨[]⟩), (6, .slice A l.length cap), (7, .int .i64 l.length), (8, .int .i64 k)]) (fun _ => []) (fun k => l.length - k) 0 (by omega) rfl rfl (by repeat (first|exact .nil|refine .cons rfl (by first|rfl|(congr 1; done)|exact congrArg _ (by omega)|(simp; done)) ?_)) (by repeat (first|exact .nil|refine .keep (by first|rfl|assumption) ?_|refine .drop ?_|exact MSub.refl _)) ?_
 intro k hk
 by_cases hlt : k < l.length
 ·obtain ⟨x, hx⟩ : ∃ x, l[k]? = some x := ⟨_, List.getElem?_eq_getElem hlt⟩
  obtain ⟨b', o, rfl, hc⟩ := hA k (lkE x) (by simp [hx])
  have he : Ext W R b' (o + k * 4) (lkE x) := ⟨hRA _ rfl (fun e => by subst e; simp at hlt), hc⟩
  have hf := hF x (List.mem_of_getElem? hx)
  unfold Lk.Fine at hf
  obtain ⟨g1, g2⟩ := raw_get hx
  have hlen := raw_len l
  have e1 : (raw l)[2 * k]'(by omega) = ⟨k, false, x.fr, x.to, x.hi⟩ := (List.getElem?_eq_some_iff.1 g1).2
  have e2 : (raw l)[2 * k + 1]'(by omega) = ⟨k, true, x.to, x.fr, -x.lo⟩ := (List.getElem?_eq_some_iff.1 g2).2
  repeat (first|refine l_val rfl rfl (by first|exact pureEval_ok rfl|exact v_load rfl (by repeat constructor) rfl (by rfl)|exact v_load_ext0 rfl (by assumption) rfl (by rfl)|exact v_index rfl rfl rfl rfl (by omega) (by omega) (by with_reducible first|exact idx4 _ _ _|fail)|exact v_build rfl rfl (by rfl)|fail) ?_|refine l_nil ?_|refine c_region ?_|refine c_seq ?_|refine x_then ?_|refine r_alloc rfl rfl rfl (by first|exact aggL|fail) (fun _ => ?_)|refine r_store rfl rfl rfl rfl rfl rfl rfl (by repeat constructor) (by rfl) ?_|refine c_dec_t rfl (by first|omega|fail) ?_|refine c_block ?_|refine c_skip ?_|fail)
  refine l_yield rfl rfl rfl rfl rfl (cJ (2 * k + 1)) (cJx (2 * k)) (fun S A hj hS => by have := hy (2 * k) (by omega) S A hj hS; rw [e1] at this; exact this) ?_ (fun W0 => ?_)
  ·repeat (first|refine l_val rfl rfl (by first|exact v_neg rfl (by omega) (by omega)|exact pureEval_ok rfl|exact v_load rfl (by repeat constructor) rfl (by rfl)|exact v_build rfl rfl (by rfl)|fail) ?_|fail)
   refine l_yield rfl rfl rfl rfl rfl (cJ (2 * k + 1 + 1)) (cJx (2 * k + 1)) (fun S A hj hS => by have := hy (2 * k + 1) (by omega) S A hj hS; rw [e2] at this; exact this) ?_ (fun W0 => ?_)
   ·repeat (first|refine l_val rfl rfl (by first|exact v_add rfl rfl (by omega) (by omega)|exact pureEval_ok rfl|fail) ?_|refine l_nil ?_|refine c_region ?_|refine x_then ?_|refine c_false rfl ?_|refine c_skip ?_|refine x_block ?_|fail)
    exact x_backD (k + 1) (by omega) (by omega) rfl rfl (by repeat (first|exact .nil|refine .cons rfl (by first|rfl|(congr 1; done)|exact congrArg _ (by omega)|(simp; done)) ?_)) (by repeat (first|exact .nil|refine .keep (by first|rfl|assumption) ?_|refine .drop ?_|exact MSub.refl _))
   ·repeat (first|refine l_val rfl rfl (by first|exact pureEval_ok rfl|fail) ?_|refine l_nil ?_|refine x_then ?_|refine c_true rfl ?_|refine c_ret ?_|refine x_then_ret ?_|refine x_block_ret ?_|fail)
    exact x_ret rfl rfl (by repeat (first|exact .nil|(apply Res.tmp; rfl)|(apply Res.cell; rfl; exact (by repeat constructor); rfl; rfl))) rfl (fun W hW => ⟨⟨_, rfl⟩, .inr ⟨2 * k + 1, by omega, _, hW.word⟩⟩)
  ·repeat (first|refine l_val rfl rfl (by first|exact pureEval_ok rfl|exact v_build rfl rfl (by rfl)|fail) ?_|refine l_nil ?_|refine x_then ?_|refine l_skip rfl rfl ?_|refine c_true rfl ?_|refine c_ret ?_|refine x_then_ret ?_|refine x_block_ret ?_|fail)
   exact x_ret rfl rfl (by repeat (first|exact .nil|(apply Res.tmp; rfl)|(apply Res.cell; rfl; exact (by repeat constructor); rfl; rfl))) rfl (fun W hW => ⟨⟨_, rfl⟩, .inr ⟨2 * k, by omega, _, hW.word⟩⟩)
 ·have hkl : k = l.length := by omega
  subst hkl
  have hlen := raw_len l
  repeat (first|refine l_val rfl rfl (by first|exact pureEval_ok rfl|fail) ?_|refine l_nil ?_|refine c_region ?_|refine c_seq ?_|refine x_then ?_|refine c_dec_f rfl (by first|omega|fail) ?_|refine c_exit ?_|refine x_then_exit ?_|refine x_block_same ?_|fail)
  exact x_end rfl rfl (by repeat (first|exact .nil|(apply Res.tmp; rfl)|(apply Res.cell; rfl; exact (by repeat constructor); rfl; rfl))) rfl (fun W hW => ⟨⟨_, rfl⟩, .inl ⟨_, by rw [hlen]; exact hW.word⟩⟩)
/-- What the iterator reads: its box, and the links that came in. -/
def Rd (w : World) (b : Nat) : Nat -> Prop := fun k => base w k ∨ k = b

/-- the steps' iterator, at whatever world of the range -/
theorem it_of {w W W1 : World} {J : (Nat -> Prop) -> World -> Prop} {mem : List (Nat × Obj)} {b : Nat} {n : Int} {A : Option Addr} {cap : Nat} {l : List Lk} (hl : l.length <= 1000) (hA : At w A 4 (l.map lkE)) (hF : Fine n l) (hn : n <= 64)
  (hm : SatW w (base w) J mem W) (hb : (b, Obj.cells ⟨netCells n A l.length cap⟩ 49 (0, 0)) ∈ mem) (hs : Same (fun _ => True) W W1) : It Try.prog 84 [.pointer (some ⟨b, 0, none⟩)] rsE (raw l) (Rd w b) W1 := by
 have hlt := hm.lt hb
 simp only at hlt
 have hsz := hs.size
 refine steps_it (Rd w b) b n A cap l W1 hl (hs.obj (hm.own _ hb).2 trivial) ((hA.sat hm).later (hs.below (Nat.le_refl _) fun _ _ => trivial)) hF hn ?_ (.inr rfl) ?_
 ·rintro k (hk | rfl)
  ·have := hm.same.size; unfold base at hk; omega
  ·omega
 ·intro a ha hne
  obtain ⟨x, l', rfl⟩ := List.exists_cons_of_ne_nil hne
  obtain ⟨b', o, h1, h2⟩ := hA 0 (lkE x) rfl
  rw [ha] at h1
  cases h1
  exact .inl (lt_of_cell (h2 0 _ rfl))
end R22
end Go.Proofs
