/- Games on networks: who wins, with a memory of positions. -/
import Derived.Test.YtcodoembnjemkaaGreatSgI
import Derived.Test.YtcodoembnjemkaaGreatSgH
set_option maxRecDepth 100000
set_option maxHeartbeats 400000000
set_option linter.unusedSectionVars false
set_option linter.unusedVariables false
set_option linter.unusedSimpArgs false
namespace Go.Proofs
open Go.RowKit Go.Kin Go.Kin.St Go.Kin.Ct Go.Kin.Sg
open R22 (chk)
namespace R24
/-- a game that is right -/
structure GOK (b : GB) : Prop where
 n : b.n <= 6
 T : b.T <= 15
 r : Rt b
 c : b.C.length <= 1000
 l : b.L.length <= 1000
 ck : chk b.n b.L = 0
/-- numbers of a position -/
def PosN (b : GB) (l : List Int) : Prop := l.length = b.n /\ ∀ x ∈ l, 0 <= x /\ x <= 100
theorem PosN.kn {b : GB} {l : List Int} (h : PosN b l) (q : Nat) : 0 <= kn l q /\ kn l q <= 100 := by
 by_cases hq : q < l.length
 ·exact h.2 _ (List.mem_of_getElem? (kn_at hq))
 ·rw [kn_over (by omega)]; omega
theorem PosN.put {b : GB} {l : List Int} (h : PosN b l) {S : List Nat} {v : Int} (hv : 0 <= v /\ v <= 100) : PosN b (put l S v) := by
 refine ⟨put_len.trans h.1, fun x hx => ?_⟩
 obtain ⟨q, hq⟩ := List.getElem?_of_mem hx
 have hlt := (List.getElem?_eq_some_iff.1 hq).1
 rw [put_len] at hlt
 have := put_kn (S := S) (v := v) hlt
 rw [kn_get hq] at this
 rw [this]
 split
 ·exact hv
 ·exact h.kn q
def EntV (b : GB) (e : MapEntry) : Prop := ∃ (k : Nat) (l : List Int), PosN b l /\ e.key = .agg ⟨plC k (kn l)⟩ /\ e.val = .bool (vB b.g k l)
theorem entV_pk {b : GB} (e : MapEntry) (h : EntV b e) : PkE e := by obtain ⟨k, l, _, h, _⟩ := h; exact ⟨k, kn l, h⟩
theorem int_inj {x y : Int} (h : Value.int .i64 x = Value.int .i64 y) : x = y := by injection h
theorem plC_inj {k k' : Int} {f f' : Nat -> Int} (h : plC k f = plC k' f') : k = k' /\ ∀ q, q < 6 -> f q = f' q := by
 unfold plC at h
 injection h with h1 h2
 refine ⟨int_inj h1, fun q hq => ?_⟩
 have := ivec_get (f := f) hq
 rw [h2, ivec_get hq] at this
 exact (int_inj (Option.some.inj this)).symm
theorem agg_inj {l m : List Value} (h : Value.agg ⟨l⟩ = Value.agg ⟨m⟩) : l = m := by injection h with h; injection h
theorem entV_val {b : GB} (hn : b.n <= 6) {k : Nat} {l : List Int} (hl : PosN b l) (e : MapEntry) (h : EntV b e) (hk : e.key = .agg ⟨plC k (kn l)⟩) : e.val = .bool (vB b.g k l) := by
 obtain ⟨k', l', hl', h1, h2⟩ := h
 rw [h1] at hk
 obtain ⟨e1, e2⟩ := plC_inj (agg_inj hk)
 have e3 : l' = l := kn_ext (hl'.1.trans hl.1.symm) fun q hq => e2 q (by have := hl'.1; omega)
 rw [h2, show k' = k by omega, e3]
theorem pk67 : PkT Tryz.prog tt 54 52 3 := ⟨⟨7, 56, _, rfl⟩, ⟨_, _, rfl⟩, ⟨_, _, rfl⟩, eqs54⟩
/-- cells that are read are not in a map -/
theorem cell_ne {w : World} {m bk o : Nat} {v : Value} {x : Mp} (hm : w.heap[m]? = some x.o) (h : w.cell? ⟨bk, o, none⟩ = some v) : bk ≠ m := fun e => by
 subst e
 unfold World.cell? at h
 simp only at h
 rw [hm] at h
 unfold Mp.o at h
 cases h
theorem cell_same {w W : World} {m bk o : Nat} {v : Value} {x : Mp} (hm : w.heap[m]? = some x.o) (h : w.cell? ⟨bk, o, none⟩ = some v) (hS : Same (fun k => k ≠ m) w W) : W.cell? ⟨bk, o, none⟩ = some v := hS.cell h (cell_ne hm h)
theorem at_same {w W : World} {m : Nat} {x : Mp} {A : Option Addr} {sz : Nat} {rows : List (List Value)} (hm : w.heap[m]? = some x.o) (h : At w A sz rows) (hS : Same (fun k => k ≠ m) w W) : At W A sz rows := fun i cs hi => by
 obtain ⟨b, o, e, hc⟩ := h i cs hi
 exact ⟨b, o, e, fun j v hj => cell_same hm (hc j v hj) hS⟩
theorem GIn.keep {b : GB} {a : Nat} {w W : World} {x : Mp} (h : GIn b a w) (hm : w.heap[b.m]? = some x.o) (hS : Same (fun k => k ≠ b.m) w W) : GIn b a W :=
 ⟨fun j v hj => cell_same hm (h.own j v hj) hS, at_same hm h.l hS, at_same hm h.c hS⟩
theorem ext_m {w : World} {m bk o : Nat} {x : Mp} {u : Value} {cs : List Value} (hm : w.heap[m]? = some x.o) (h : ∀ j v, (u :: cs)[j]? = some v -> w.cell? ⟨bk, o + j, none⟩ = some v) : Ext w (allBut w [m]) bk o (u :: cs) :=
 ⟨⟨lt_of_cell (h 0 u rfl), by simpa using cell_ne hm (h 0 u rfl)⟩, h⟩
theorem GIn.extM {b : GB} {a : Nat} {w : World} {x : Mp} (h : GIn b a w) (hm : w.heap[b.m]? = some x.o) : Ext w (allBut w [b.m]) a 0 b.cells :=
 ext_m hm fun j v hj => by rw [Nat.zero_add]; exact h.own j v hj
theorem cells_T {b : GB} : b.cells[3]? = some (.int .i64 b.T) := rfl
theorem cells_m {b : GB} : b.cells[10]? = some (.map (some b.m)) := rfl
theorem may_flt {b : GB} {k : Nat} {l : List Int} : flt (mayF b.C k (kn l)) b.n = may b.g k l := rfl
theorem due_flt {b : GB} {k : Nat} {l : List Int} : flt (dueF b.C k (kn l)) b.n = Sg.due b.g k l := rfl
theorem iv_zero {C : List Lk} {q : Nat} : decide (iv C q = 0) = (into C (q : Int)).isNone := by
 cases h : into C (q : Int) with
 | none => rw [iv_none h]; rfl
 | some i => rw [iv_some h, decide_eq_false (by omega)]; rfl
theorem free_flt {b : GB} {l : List Int} : flt (freeB b.C (kn l)) b.n = free b.g l := by
 unfold flt free freeB
 apply List.filter_congr
 intro q _
 rw [iv_zero]
theorem free_len {b : GB} {l : List Int} : (free b.g l).length <= b.n := by rw [<- free_flt]; exact flt_le _ _
theorem may_len {b : GB} {k : Nat} {l : List Int} : (may b.g k l).length <= b.n := flt_le _ _
theorem due_len {b : GB} {k : Nat} {l : List Int} : (Sg.due b.g k l).length <= b.n := flt_le _ _
theorem ch_lt {b : GB} {ps must S : List Nat} (h : S ∈ allCh ps must) (hp : ∀ q ∈ ps, q < b.n) : ∀ q ∈ S, q < b.n := fun q hq => hp q ((mem_allCh.1 h).1.subset hq)
theorem free_lt {b : GB} {l : List Int} : ∀ q ∈ free b.g l, q < b.n := fun q hq => (free_mem.1 hq).1
theorem may_lt' {b : GB} {k : Nat} {l : List Int} : ∀ q ∈ may b.g k l, q < b.n := fun q hq => may_lt hq
def VQ (b : GB) (v : Bool) (w : World) (e : Ending) (w' : World) : Prop := ∃ es' : { es : Mp // ∀ x ∈ es.es, EntV b x }, e = .returned (.bool v) /\ Same (fun x => x ≠ b.m) w w' /\ w'.heap[b.m]? = some es'.1.o
/-- what is to be shown of `wins` at a tick -/
def WinsC (b : GB) (a k : Nat) : Prop := ∀ (l : List Int) (w : World) (es : Mp), PosN b l -> GIn b a w -> w.heap[b.m]? = some es.o -> (∀ x ∈ es.es, EntV b x) -> Calls Tryz.prog 35 ⟨[.pointer (some ⟨a, 0, none⟩), .agg ⟨plC k (kn l)⟩]⟩ w (VQ b (vB b.g k l) w)
/-- the desk's first good choice -/
theorem firstD_calls (b : GB) (a bq k : Nat) (q : List Int) (w : World) (es : Mp) (hb : GOK b) (hk : k <= b.T) (hq : PosN b q) (hg : GIn b a w) (hbq : w.cell? ⟨bq, 0, none⟩ = some (.pointer (some ⟨a, 0, none⟩))) (hm : w.heap[b.m]? = some es.o) (hes : ∀ x ∈ es.es, EntV b x) (hW : WinsC b a (k + 1)) :
  Calls Tryz.prog 38 ⟨[.agg ⟨plD a bq⟩, .agg ⟨plC k (kn q)⟩]⟩ w (FirstQ b.m (EntV b) (fD b.g k q) k (kn q) 1 w) := by
 have hT := hb.T
 have hn := hb.n
 have h := first_calls b.m 66 35 [.pointer (some ⟨bq, 0, none⟩)] [.pointer (some ⟨a, 0, none⟩)] [] k (kn q) 1 (free b.g q) [] (goodD b.g k q) (EntV b) es w (Nat.le_trans free_len hn) (by simp) (fun x hx => by have := free_lt x hx; omega) (by omega) (by omega) hes hm
  (fun W hS => by
   have := movD_calls b a bq k (kn q) W hn (hg.keep hm hS) (cell_same hm hbq hS)
   rw [free_flt] at this
   exact this)
  (fun S hSm W es1 hS hm1 hes1 => by
   have hlt := ch_lt hSm free_lt
   have e : putF (kn q) S ((k : Int) + 1) = kn (put q S (k + 1)) := putF_kn fun x hx => by have := hlt x hx; have := hq.1; omega
   have := hW (put q S (k + 1)) W es1 (hq.put (by omega)) (hg.keep hm hS) hm1 hes1
   rw [e]
   exact this)
 exact h
/-- the others' first good choice -/
theorem firstO_calls (b : GB) (a bq k : Nat) (l : List Int) (w : World) (es : Mp) (hb : GOK b) (hk : k <= b.T) (hl : PosN b l) (hg : GIn b a w) (hbq : w.cell? ⟨bq, 0, none⟩ = some (.pointer (some ⟨a, 0, none⟩))) (hm : w.heap[b.m]? = some es.o) (hes : ∀ x ∈ es.es, EntV b x)
  (hG : ∀ (q : List Int) (W : World) (es1 : Mp), PosN b q -> GIn b a W -> W.cell? ⟨bq, 0, none⟩ = some (.pointer (some ⟨a, 0, none⟩)) -> W.heap[b.m]? = some es1.o -> (∀ x ∈ es1.es, EntV b x) -> Calls Tryz.prog 54 ⟨[.agg ⟨plC k (kn q)⟩, .pointer (some ⟨bq, 0, none⟩)]⟩ W (VQ b (!(fD b.g k q).isSome) W)) :
  Calls Tryz.prog 38 ⟨[.agg ⟨plO bq⟩, .agg ⟨plC k (kn l)⟩]⟩ w (FirstQ b.m (EntV b) (fO b.g k l) k (kn l) 0 w) := by
 have hT := hb.T
 have hn := hb.n
 have h := first_calls b.m 52 54 [.pointer (some ⟨bq, 0, none⟩)] [] [.pointer (some ⟨bq, 0, none⟩)] k (kn l) 0 (may b.g k l) (Sg.due b.g k l) (goodO b.g k l) (EntV b) es w (Nat.le_trans may_len hn) (Nat.le_trans due_len hn) (fun x hx => by have := may_lt' x hx; omega) (by omega) (by omega) hes hm
  (fun W hS => movO_calls b a bq k (kn l) W hn (by omega) (fun q => by have := hl.kn q; omega) hb.r hb.c (hg.keep hm hS) (cell_same hm hbq hS))
  (fun S hSm W es1 hS hm1 hes1 => by
   have hlt := ch_lt hSm may_lt'
   have e : putF (kn l) S ((k : Int) + 1) = kn (put l S (k + 1)) := putF_kn fun x hx => by have := hlt x hx; have := hl.1; omega
   have := hG (put l S (k + 1)) W es1 (hl.put (by omega)) (hg.keep hm hS) (cell_same hm hbq hS) hm1 hes1
   rw [e, Int.add_zero]
   exact this)
 exact h
/-- a call that is `first`, in a region that draws its order -/
theorem firstQ_L {b : GB} {o : Option (List Nat)} {k : Int} {f : Nat -> Int} {la : Int} {w0 W W' : World} {D : Nat -> Prop} {e : Ending} (vs : Array Value) (hD : ¬ D b.m) (h : FirstQ b.m (EntV b) o k f la W e W') :
  ∃ π, e = .returned (fV o k f la vs π) /\ ∀ l, SatW w0 D (HasJ b.m (EntV b)) l W -> SatW w0 D (HasJ b.m (EntV b)) (fM o vs π ++ l) W' := by
 obtain ⟨π, es, h1, h2, h3, h4, h5, h6⟩ := h
 exact ⟨π, h1, fun l hl => satW_J hD hl h2 (ents := es.es) (clock := es.cl) h3 h4 h5 h6⟩
theorem fM_len {o : Option (List Nat)} {vs : Array Value} {π : Pi} : (fM o vs π).length <= 1 := by
 unfold fM
 cases o with
 | none => simp
 | some S => cases S <;> simp [gM]
theorem word_m {b : GB} {w0 W : World} {D : Nat -> Prop} {mem : List (Nat × Obj)} (h : SatW w0 D (HasJ b.m (EntV b)) mem W) : ∃ es : Mp, W.heap[b.m]? = some es.o /\ ∀ x ∈ es.es, EntV b x := by
 obtain ⟨_, _, ents, clock, h3, h4⟩ := h.word
 exact ⟨⟨ents, clock⟩, h3, h4⟩
theorem sameM {m : Nat} {w W : World} {J : (Nat -> Prop) -> World -> Prop} {mem : List (Nat × Obj)} (h : SatW w (allBut w [m]) J mem W) : Same (fun x => x ≠ m) w W := h.same.monoLt fun k hk hne => ⟨hk, by simpa using hne⟩
theorem vq_of {b : GB} {v : Bool} {w W : World} {mem : List (Nat × Obj)} (h : SatW w (allBut w [b.m]) (HasJ b.m (EntV b)) mem W) : VQ b v w (.returned (.bool v)) W := by
 obtain ⟨es, h1, h2⟩ := word_m h
 exact ⟨⟨es, h2⟩, rfl, sameM h, h1⟩
theorem good81_calls (b : GB) (a bg k : Nat) (hb : GOK b) (hk : k <= b.T) (hW : WinsC b a (k + 1)) (q : List Int) (w : World) (es : Mp) (hq : PosN b q) (hg : GIn b a w) (hbg : w.cell? ⟨bg, 0, none⟩ = some (.pointer (some ⟨a, 0, none⟩))) (hm : w.heap[b.m]? = some es.o) (hes : ∀ x ∈ es.es, EntV b x) :
  Calls Tryz.prog 54 ⟨[.agg ⟨plC k (kn q)⟩, .pointer (some ⟨bg, 0, none⟩)]⟩ w (VQ b (!(fD b.g k q).isSome) w) := by
 have hE : Ext w (allBut w [b.m]) bg 0 [.pointer (some ⟨a, 0, none⟩)] := ext_m hm fun j v hj => by
  cases j with
  | zero => cases hj; exact hbg
  | succ j => cases hj
 have hfi := fun (W : World) (bq : Nat) (es1 : Mp) (h1 : Same (fun x => x ≠ b.m) w W) => firstD_calls b a bq k q W es1 hb hk hq (hg.keep hm h1)
 obtain ⟨o, ho⟩ : ∃ o, fD b.g k q = o := ⟨_, rfl⟩
 rw [ho] at hfi ⊢
 refine fEn Tryz.func54 rfl Tryz.ntmps54 rfl rfl (satW_fresh (m := [(b.m, es.o)]) (by simp) (by simpa using hm)) ?_
 refine c_hasJ (b := b.m) (R := EntV b) (ents := es.es) (clock := es.cl) (mem' := []) (List.Perm.refl _) hes (fun hD => ?_)
 repeat ((fail_if_success refine c_probe (id := 1) ?_); (fail_if_success refine c_probe1 (id := 1) ?_); first|refine lVa rfl rfl (by first|exact pEv rfl|fail) ?_|refine lNi ?_|refine cRg ?_|refine cSq ?_|refine xTh ?_|refine r_box rfl rfl rfl rfl (fun _ => ?_)|fail)
 refine cSq ?_
 rename_i b2
 refine c_new 0 3 [(1, .calO 0 (fun b => .agg ⟨plD a b⟩) (bxG a)), (3, .calL [1] (fV o k (kn q) 1) (fM o)), (8, .new 2), (10, .sto 2 0 7)] [(1, [0]), (3, [1]), (8, [2]), (10, [2])] [(3, 0)] rfl (by decide +kernel) rfl ?_
 refine e_val rfl rfl rfl rfl (by first|exact vL0 rfl (by assumption) rfl (by rfl) ) ?_
 refine e_callO rfl rfl rfl rfl rfl rfl (fun W hW => desk_calls a W) (fun bq => ?_)
 refine e_val rfl rfl rfl rfl (v_loadAll rfl (by repeat constructor) rfl rfl plC_len) ?_
 refine e_callL rfl rfl rfl rfl rfl (by decide) (fun _ => fM_len) rfl (fun W hW3 => ?_) (fun π => ?_)
 ·obtain ⟨es1, h1, h2⟩ := word_m hW3
  have hcell := hW3.cellAt (b := bq) (l := [.pointer (some ⟨a, 0, none⟩)]) (T := 49) (fr := (0, 0)) (by repeat constructor) 0
  refine (hfi W bq es1 (sameM hW3) hcell h1 h2 hW).mono fun e W' h => ?_
  exact firstQ_L _ hD h
 cases o with
 | none =>
  repeat (first|refine e_new rfl rfl rfl rfl (n_alloc rfl (plC_zero rfl)) (fun _ => ?_)|refine e_store (vs := plC _ _) rfl rfl rfl rfl rfl plC_beq plC_one rfl rfl rfl rfl (by rw [plC_len]; decide) (splice_all (plC_len.trans plC_len.symm)) ?_|refine lVa rfl rfl (by first|exact pEv rfl|fail) ?_|refine lNi ?_|refine cRg ?_|refine cSq ?_|refine xTh ?_|refine c_ret ?_|refine e_val rfl rfl rfl rfl (by first|exact pEv rfl|fail) ?_|refine e_nil rfl ?_|fail)
  exact x_ret rfl rfl (by repeat constructor) rfl (fun W hW => vq_of hW)
 | some S =>
  cases S with
  | nil =>
   repeat (first|refine e_new rfl rfl rfl rfl (n_alloc rfl (plC_zero rfl)) (fun _ => ?_)|refine e_store (vs := plC _ _) rfl rfl rfl rfl rfl plC_beq plC_one rfl rfl rfl rfl (by rw [plC_len]; decide) (splice_all (plC_len.trans plC_len.symm)) ?_|refine lVa rfl rfl (by first|exact pEv rfl|fail) ?_|refine lNi ?_|refine cRg ?_|refine cSq ?_|refine xTh ?_|refine c_ret ?_|refine e_val rfl rfl rfl rfl (by first|exact pEv rfl|fail) ?_|refine e_nil rfl ?_|fail)
   exact x_ret rfl rfl (by repeat constructor) rfl (fun W hW => vq_of hW)
  | cons x S =>
   repeat (first|refine e_new rfl rfl rfl rfl (n_alloc rfl (plC_zero rfl)) (fun _ => ?_)|refine e_store (vs := plC _ _) rfl rfl rfl rfl rfl plC_beq plC_one rfl rfl rfl rfl (by rw [plC_len]; decide) (splice_all (plC_len.trans plC_len.symm)) ?_|refine lVa rfl rfl (by first|exact pEv rfl|fail) ?_|refine lNi ?_|refine cRg ?_|refine cSq ?_|refine xTh ?_|refine c_ret ?_|refine e_val rfl rfl rfl rfl (by first|exact pEv rfl|fail) ?_|refine e_nil rfl ?_|fail)
   exact x_ret rfl rfl (by repeat constructor) rfl (fun W hW => vq_of hW)
end R24
end Go.Proofs

namespace Go
open Go.RowKit
namespace Kin
section
variable {P : Program} {N : Nat} {c : Cx} {env : List (Nat × Value)} {mem : List (Nat × Obj)} {tt : List (TypeId × TI)}
 {ty : TypeId} {pos : String} {af : Array Edge} {g : Option (Nat × Bool)} {dd : Option Tmp}
theorem v_lookE [T : TT P tt] {t kt ta ti et b sz bt sz2 bt2 : Nat} {m kx : Operand} {k : Int} {f : Nat -> Int} {ents : List MapEntry} {clock : Nat} {z z2 out : Value} {kd : TK}
  (hm0 : evOp env m = some (.map (some b))) (hk : evOp env kx = some (.agg ⟨pkC k f⟩)) (ht : look tt t = some ⟨.map kt et, sz, bt, z⟩) (K : PkT P tt kt ta ti) (het : look tt et = some ⟨kd, sz2, bt2, z2⟩)
  (hin : (b, Obj.map ⟨ents⟩ clock) ∈ mem) (he : ∀ e ∈ ents, PkE e) (ho : (match findB (pkB k f) ents 0 with | some (_, v) => Value.tuple ⟨[v, .bool true]⟩ | none => Value.tuple ⟨[z2, .bool false]⟩) = out) :
  OpVal P N c env mem ⟨dd, .lookup t m kx true, ty, pos, af, g⟩ out :=
 ⟨rfl, fun a W ha hm => by
  have hb := (hm.own _ hin).2
  have hmu : P.underlying t = some (.map kt et) := (TT.look (P := P) ht).1
  obtain ⟨_, i, hi, _, _, hz⟩ := TT.look (P := P) het
  have hz2 : (zeroValue et).run P W = .ok z2 W := by
   simp only [zeroValue, Sem.run_bind, run_info hi, Result.andThen_ok, hz]; rfl
  have hr := run_findPk K he k f W
  subst ho
  cases hfb : findB (pkB k f) ents 0 with
  | none =>
   rw [hfb] at hr
   simp only [execOp, ha.eval hm0, ha.eval hk, Instr.lookup, Sem.run_bind, run_und hmu, Result.andThen_ok, MapKept.run_getObj_map hb, run_checkPk K, hr, hz2, Sem.run_pure]
   rfl
  | some p =>
   obtain ⟨j, u⟩ := p
   rw [hfb] at hr
   simp only [execOp, ha.eval hm0, ha.eval hk, Instr.lookup, Sem.run_bind, run_und hmu, Result.andThen_ok, MapKept.run_getObj_map hb, run_checkPk K, hr, Sem.run_pure]
   rfl⟩
end
end Kin
end Go

set_option maxRecDepth 100000
set_option maxHeartbeats 400000000
namespace Go.Proofs
open Go.RowKit Go.Kin Go.Kin.St Go.Kin.Ct Go.Kin.Sg
open R22 (chk)
namespace R24
theorem kp_vB {b : GB} {k : Nat} {l : List Int} (hk : b.T < k) : vB b.g k l = kpB b.g l := by rw [vB_end (G := b.g) hk]; rfl
theorem wins_end (b : GB) (a k : Nat) (hb : GOK b) (hk : b.T < k) (hk2 : k <= 100) : WinsC b a k := by
 intro l w es hl hg hm hes
 have hT := hb.T
 have hE := hg.extM hm
 have h03 : Ext w (allBut w [b.m]) a 3 [.int .i64 b.T] := by
  have := hE.at cells_T
  rwa [Nat.zero_add] at this
 have hpl0 := plC_0 (k := k) (f := kn l)
 have hkc := fun (W : World) (hW : GIn b a W) => kept_calls b a k l W hb.n hl.1 (fun x hx => by have := hl.2 x hx; omega) hb.l hb.ck hW
 refine fEn Tryz.func35 rfl Tryz.ntmps35 rfl rfl (satW_fresh (m := [(b.m, es.o)]) (by simp) (by simpa using hm)) ?_
 repeat (first|refine lVa rfl rfl (v_loadAll rfl (by repeat constructor) rfl rfl plC_len) ?_|refine r_call rfl rfl rfl (fun W hW => hkc W (hg.keep hm (sameM hW))) ?_|refine lVa rfl rfl (by first|exact pEv rfl|fail) ?_|refine lNi ?_|refine cRg ?_|refine cSq ?_|refine xTh ?_|refine r_box rfl rfl rfl rfl (fun _ => ?_)|refine c_dec_t rfl (by first|omega|fail) ?_|refine c_ret ?_|refine xTr ?_|refine c_reads rfl (by decide +kernel) ?_|refine q_val rfl rfl (by first|exact pEv rfl|exact vLd rfl (by repeat constructor) rfl (by rfl)|exact vL0 rfl (by assumption) rfl (by rfl)|fail) ?_|refine q_nil ?_|fail)
 exact x_ret rfl rfl (by repeat constructor) rfl (fun W hW => ⟨⟨es, hes⟩, by rw [kp_vB hk], sameM hW, (hW.own (b.m, es.o) (by repeat constructor)).2⟩)
theorem wins_step (b : GB) (a k : Nat) (hb : GOK b) (hk : k <= b.T) (hW1 : WinsC b a (k + 1)) : WinsC b a k := by
 intro l w es hl hg hm hes
 have hT := hb.T
 have hE := hg.extM hm
 have h03 : Ext w (allBut w [b.m]) a 3 [.int .i64 b.T] := by
  have := hE.at cells_T
  rwa [Nat.zero_add] at this
 have h10 : Ext w (allBut w [b.m]) a 10 [.map (some b.m)] := by
  have := hE.at cells_m
  rwa [Nat.zero_add] at this
 have hpl0 := plC_0 (k := k) (f := kn l)
 have hfi := fun (W : World) (bq : Nat) (es1 : Mp) (h1 : Same (fun x => x ≠ b.m) w W) h2 h3 h4 => firstO_calls b a bq k l W es1 hb hk hl (hg.keep hm h1) h2 h3 h4 fun q W es1 h1 h2 h3 h4 h5 => good81_calls b a bq k hb hk hW1 q W es1 h1 h2 h3 h4 h5
 have hvs := vB_step (G := b.g) (l := l) hk
 obtain ⟨o, ho⟩ : ∃ o, fO b.g k l = o := ⟨_, rfl⟩
 rw [ho] at hfi hvs
 refine fEn Tryz.func35 rfl Tryz.ntmps35 rfl rfl (satW_fresh (m := [(b.m, es.o)]) (by simp) (by simpa using hm)) ?_
 cases hfb : findB (pkB k (kn l)) es.es 0 with
 | some p =>
  obtain ⟨j, v⟩ := p
  obtain ⟨en, _, h2, h3, h4⟩ := findB_some hfb
  have hen := List.mem_of_getElem? h2
  have hev := hes en hen
  obtain ⟨k', f', hkk⟩ := entV_pk en hev
  rw [hkk] at h3
  have hv := entV_val hb.n hl en hev (by rw [hkk]; exact congrArg (fun z => Value.agg ⟨z⟩) (pkB_true h3).symm)
  rw [h4] at hv
  subst hv
  repeat (first|refine q_val rfl rfl (v_loadAll rfl (by repeat constructor) rfl rfl plC_len) ?_|refine q_val rfl rfl (v_lookE (f := kn l) (ents := es.es) (clock := es.cl) rfl rfl rfl pk67 rfl (by repeat constructor) (fun e he => entV_pk e (hes e he)) (by rw [hfb])) ?_|refine lVa rfl rfl (by first|exact pEv rfl|fail) ?_|refine lNi ?_|refine cRg ?_|refine cSq ?_|refine xTh ?_|refine r_box rfl rfl rfl rfl (fun _ => ?_)|refine c_true rfl ?_|refine c_dec_f rfl (by first|omega|exact fun h => h rfl|fail) ?_|refine cSk ?_|refine c_ret ?_|refine xTr ?_|refine c_reads rfl (by decide +kernel) ?_|refine q_val rfl rfl (by first|exact pEv rfl|exact vLd rfl (by repeat constructor) rfl (by rfl)|exact vL0 rfl (by assumption) rfl (by rfl)|fail) ?_|refine q_nil ?_|fail)
  exact x_ret rfl rfl (by repeat constructor) rfl (fun W hW => ⟨⟨es, hes⟩, rfl, sameM hW, (hW.own (b.m, es.o) (by repeat constructor)).2⟩)
 | none =>
  repeat ((fail_if_success refine c_probe (id := 6) ?_); (fail_if_success refine c_probe1 (id := 6) ?_); first|refine q_val rfl rfl (v_loadAll rfl (by repeat constructor) rfl rfl plC_len) ?_|refine q_val rfl rfl (v_lookE (f := kn l) (ents := es.es) (clock := es.cl) rfl rfl rfl pk67 rfl (by repeat constructor) (fun e he => entV_pk e (hes e he)) (by rw [hfb])) ?_|refine lVa rfl rfl (by first|exact pEv rfl|fail) ?_|refine lNi ?_|refine cRg ?_|refine cSq ?_|refine xTh ?_|refine r_box rfl rfl rfl rfl (fun _ => ?_)|refine c_false rfl ?_|refine c_dec_f rfl (by first|omega|exact fun h => h rfl|fail) ?_|refine cSk ?_|refine c_reads rfl (by decide +kernel) ?_|refine q_val rfl rfl (by first|exact pEv rfl|exact vLd rfl (by repeat constructor) rfl (by rfl)|exact vL0 rfl (by assumption) rfl (by rfl)|fail) ?_|refine q_nil ?_|fail)
  refine cSq ?_
  rename_i b3
  refine c_hasJ (b := b.m) (R := EntV b) (ents := es.es) (clock := es.cl) (mem' := [(b3, .cells ⟨plC k (kn l)⟩ 54 (0, 0))]) (List.Perm.swap _ _ _) hes (fun hD => ?_)
  refine c_new 0 3 [(1, .calO 0 (fun b => .agg ⟨plO b⟩) (bxG a)), (3, .calL [1] (fV o k (kn l) 0) (fM o)), (8, .new 2), (10, .sto 2 0 7)] [(1, [0]), (3, [1]), (8, [2]), (10, [2])] [(3, 0)] rfl (by decide +kernel) rfl ?_
  refine e_val rfl rfl rfl rfl (by first|exact pEv rfl ) ?_
  refine e_callO rfl rfl rfl rfl rfl rfl (fun W hW => others_calls a W) (fun bq => ?_)
  refine e_val rfl rfl rfl rfl (v_loadAll rfl (by repeat constructor) rfl rfl plC_len) ?_
  refine e_callL rfl rfl rfl rfl rfl (by decide) (fun _ => fM_len) rfl (fun W hW3 => ?_) (fun π => ?_)
  ·obtain ⟨es1, h1, h2⟩ := word_m hW3
   have hcell := hW3.cellAt (b := bq) (l := [.pointer (some ⟨a, 0, none⟩)]) (T := 49) (fr := (0, 0)) (by repeat constructor) 0
   refine (hfi W bq es1 (sameM hW3) hcell h1 h2).mono fun e W' h => ?_
   exact firstQ_L _ hD h
  cases o with
  | none =>
   have hnew : ∀ e : MapEntry, e.key = .agg ⟨pkC k (kn l)⟩ -> e.val = .bool (!false) -> EntV b e := fun e h1 h2 => ⟨k, l, hl, h1, by rw [h2, hvs]; rfl⟩
   repeat (first|refine e_new rfl rfl rfl rfl (n_alloc rfl (plC_zero rfl)) (fun _ => ?_)|refine e_store (vs := plC _ _) rfl rfl rfl rfl rfl plC_beq plC_one rfl rfl rfl rfl (by rw [plC_len]; decide) (splice_all (plC_len.trans plC_len.symm)) ?_|refine h_val rfl rfl (v_loadAll rfl (by repeat constructor) rfl rfl plC_len) ?_|refine h_do1 rfl (by decide +kernel) (by decide +kernel) rfl rfl (d_noteP (R := EntV b) (f := kn l) hD rfl rfl rfl rfl pk67 entV_pk hnew) ?_|refine lVa rfl rfl (by first|exact pEv rfl|fail) ?_|refine lNi ?_|refine cRg ?_|refine cSq ?_|refine xTh ?_|refine c_ret ?_|refine c_cut rfl (by decide +kernel) ?_|refine h_val rfl rfl (by first|exact pEv rfl|exact vL0 rfl (by assumption) rfl (by rfl)|fail) ?_|refine e_val rfl rfl rfl rfl (by first|exact pEv rfl|fail) ?_|refine e_nil rfl ?_|fail)
   exact x_ret rfl rfl (by repeat constructor) rfl (fun W hW => by rw [hvs]; exact vq_of hW)
  | some S =>
   have hnew : ∀ e : MapEntry, e.key = .agg ⟨pkC k (kn l)⟩ -> e.val = .bool (!true) -> EntV b e := fun e h1 h2 => ⟨k, l, hl, h1, by rw [h2, hvs]; rfl⟩
   cases S with
   | nil =>
    repeat (first|refine e_new rfl rfl rfl rfl (n_alloc rfl (plC_zero rfl)) (fun _ => ?_)|refine e_store (vs := plC _ _) rfl rfl rfl rfl rfl plC_beq plC_one rfl rfl rfl rfl (by rw [plC_len]; decide) (splice_all (plC_len.trans plC_len.symm)) ?_|refine h_val rfl rfl (v_loadAll rfl (by repeat constructor) rfl rfl plC_len) ?_|refine h_do1 rfl (by decide +kernel) (by decide +kernel) rfl rfl (d_noteP (R := EntV b) (f := kn l) hD rfl rfl rfl rfl pk67 entV_pk hnew) ?_|refine lVa rfl rfl (by first|exact pEv rfl|fail) ?_|refine lNi ?_|refine cRg ?_|refine cSq ?_|refine xTh ?_|refine c_ret ?_|refine c_cut rfl (by decide +kernel) ?_|refine h_val rfl rfl (by first|exact pEv rfl|exact vL0 rfl (by assumption) rfl (by rfl)|fail) ?_|refine e_val rfl rfl rfl rfl (by first|exact pEv rfl|fail) ?_|refine e_nil rfl ?_|fail)
    exact x_ret rfl rfl (by repeat constructor) rfl (fun W hW => by rw [hvs]; exact vq_of hW)
   | cons x S =>
    repeat (first|refine e_new rfl rfl rfl rfl (n_alloc rfl (plC_zero rfl)) (fun _ => ?_)|refine e_store (vs := plC _ _) rfl rfl rfl rfl rfl plC_beq plC_one rfl rfl rfl rfl (by rw [plC_len]; decide) (splice_all (plC_len.trans plC_len.symm)) ?_|refine h_val rfl rfl (v_loadAll rfl (by repeat constructor) rfl rfl plC_len) ?_|refine h_do1 rfl (by decide +kernel) (by decide +kernel) rfl rfl (d_noteP (R := EntV b) (f := kn l) hD rfl rfl rfl rfl pk67 entV_pk hnew) ?_|refine lVa rfl rfl (by first|exact pEv rfl|fail) ?_|refine lNi ?_|refine cRg ?_|refine cSq ?_|refine xTh ?_|refine c_ret ?_|refine c_cut rfl (by decide +kernel) ?_|refine h_val rfl rfl (by first|exact pEv rfl|exact vL0 rfl (by assumption) rfl (by rfl)|fail) ?_|refine e_val rfl rfl rfl rfl (by first|exact pEv rfl|fail) ?_|refine e_nil rfl ?_|fail)
    exact x_ret rfl rfl (by repeat constructor) rfl (fun W hW => by rw [hvs]; exact vq_of hW)
theorem wins_calls (b : GB) (a : Nat) (hb : GOK b) : ∀ (d k : Nat), b.T + 1 - k = d -> k <= b.T + 1 -> WinsC b a k
 | 0, k, h, hk => wins_end b a k hb (by omega) (by have := hb.T; omega)
 | d + 1, k, h, hk => wins_step b a k hb (by omega) (wins_calls b a hb d (k + 1) (by omega) (by omega))
end R24
end Go.Proofs
