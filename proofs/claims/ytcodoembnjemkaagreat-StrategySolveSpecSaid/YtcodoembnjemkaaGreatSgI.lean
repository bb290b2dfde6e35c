/- Games on networks: the desk's moves, the players. -/
import Derived.Test.YtcodoembnjemkaaGreatSgH
set_option maxRecDepth 100000
set_option maxHeartbeats 400000000
set_option linter.unusedSectionVars false
set_option linter.unusedVariables false
set_option linter.unusedSimpArgs false
namespace Go.Proofs
open Go.RowKit Go.Kin Go.Kin.St Go.Kin.Ct Go.Kin.Sg
namespace R24
def nn (π : Pi) (i : Nat) : Nat := π.ns.getD i 0
def rr (π : Pi) (i : Nat) : List Value := π.rs.getD i []
def lsV (ls : List Nat) (_ : Array Value) (π : Pi) : Value := gSl ls π.b (capF 1 ls.length π.rest)
def lsO (ls : List Nat) (_ : Array Value) (π : Pi) : List (Nat × Obj) := gM nE 3 ls π.b (restF 1 ls.length π.rest)
theorem gF {ls : List Nat} {b cap : Nat} {rest : List Value} (h : gOK nE 1 ls cap rest) : gSl ls b (capF 1 ls.length rest) = gSl ls b cap /\ gM nE 3 ls b (restF 1 ls.length rest) = gM nE 3 ls b rest := by
 cases ls with
 | nil => exact ⟨rfl, rfl⟩
 | cons x l =>
  obtain ⟨h1, h2⟩ := growF (h (by simp)) (by omega)
  rw [h1, h2]
  exact ⟨rfl, rfl⟩
theorem gF_ok {ls : List Nat} {rest : List Value} (hl : ls.length <= 6) : gOK nE 1 ls (capF 1 ls.length rest) (restF 1 ls.length rest) := fun _ => growF_mk (nE_rows ls) (by unfold maxLen; omega) rest
theorem lsQ_L {ls : List Nat} {W W' : World} {e : Ending} (vs : Array Value) (h : LsQ ls W e W') : ∃ π, e = .returned (lsV ls vs π) /\ ∀ {w0 : World} {D : Nat -> Prop} {J : (Nat -> Prop) -> World -> Prop} (l : List (Nat × Obj)), SatW w0 D J l W -> SatW w0 D J (lsO ls vs π ++ l) W' := by
 obtain ⟨b, cap, rest, rfl, hg, hb, hm⟩ := h
 obtain ⟨e1, e2⟩ := gF (b := b) hg
 refine ⟨⟨b, rest, [], []⟩, by unfold lsV; rw [e1], fun l hl => ?_⟩
 unfold lsO
 rw [e2]
 refine satW_L hl hb ?_ ?_
 ·cases ls <;> simp [gM]
 ·intro p hp
  cases ls with
  | nil => cases hp
  | cons x l =>
   rw [List.mem_singleton.1 hp]
   exact hm (by simp)
def chV (_ : Array Value) (π : Pi) : Value := .func (.func 84) ⟨[]⟩ ⟨[.pointer (some ⟨nn π 1, 0, none⟩), .pointer (some ⟨nn π 2, 0, none⟩), .pointer (some ⟨nn π 0, 0, none⟩), .pointer (some ⟨nn π 3, 0, none⟩)]⟩
def chO (vs : Array Value) (π : Pi) : List (Nat × Obj) := match vs with
 | ⟨[pl, X, Y, la]⟩ => [(nn π 3, .cells ⟨[la]⟩ 3 (0, 0)), (nn π 2, .cells ⟨[Y]⟩ 37 (0, 0)), (nn π 1, .cells ⟨[X]⟩ 37 (0, 0)), (nn π 0, .cells ⟨cellsL pl⟩ 54 (0, 0))]
 | _ => []
theorem movQ_of' {k : Int} {f : Nat -> Int} {la : Int} {ps must : List Nat} {w W : World} {mem mem' : List (Nat × Obj)} (c : CB) (hc : c.OK ps must) (hW : SatW w (base w) noJ mem W) (hp : mem.Perm (c.ms k f la ps must ++ mem')) : MovQ k f la ps must w (.returned c.v) W :=
 movQ_of c hc (hW.perm hp) (List.sublist_append_left _ _)
theorem movD_calls (b : GB) (a bg : Nat) (k : Int) (f : Nat -> Int) (w : World) (hn : b.n <= 6) (hg : GIn b a w) (hbg : w.cell? ⟨bg, 0, none⟩ = some (.pointer (some ⟨a, 0, none⟩))) :
  Calls Tryz.prog 66 ⟨[.agg ⟨plC k f⟩, .pointer (some ⟨bg, 0, none⟩)]⟩ w (MovQ k f 1 (flt (freeB b.C f) b.n) [] w) := by
 have hE : Ext w (base w) bg 0 [.pointer (some ⟨a, 0, none⟩)] := ext_of fun j v hj => by
  cases j with
  | zero => cases hj; exact hbg
  | succ j => cases hj
 refine fEn Tryz.func66 rfl Tryz.ntmps66 rfl rfl (sWn w) ?_
 have hfr := fun (W : World) (hW : Later w W) => free_calls b a k f W hn (hg.later hW)
 have hl6 := flt_le (freeB b.C f) b.n
 obtain ⟨l, hl⟩ : ∃ l, flt (freeB b.C f) b.n = l := ⟨_, rfl⟩
 rw [hl] at hfr hl6 ⊢
 repeat ((fail_if_success refine c_probe (id := 1) ?_); (fail_if_success refine c_probe1 (id := 1) ?_); first|refine lVa rfl rfl (by first|exact pEv rfl|fail) ?_|refine lNi ?_|refine cRg ?_|refine cSq ?_|refine xTh ?_|refine r_box rfl rfl rfl rfl (fun _ => ?_)|fail)
 rename_i b2
 refine cSq ?_
 refine c_new 0 5 [(3, .calL [0] (lsV l) (lsO l)), (4, .calL [1, 2, 3, 4] chV chO)] [(3, [0]), (4, [1, 2, 3, 4])] [] rfl (by decide +kernel) rfl ?_
 refine e_val rfl rfl rfl rfl (v_loadAll rfl (by repeat constructor) rfl rfl plC_len) ?_
 refine e_val rfl rfl rfl rfl (by first|exact vL0 rfl (by assumption) rfl (by rfl) ) ?_
 refine e_val rfl rfl rfl rfl (v_loadAll rfl (by repeat constructor) rfl rfl plC_len) ?_
 refine e_callL rfl rfl rfl rfl rfl (by decide) (fun π => by unfold lsO; cases l <;> simp [gM]) rfl (fun W hW => (hfr W hW.below).mono fun e W' h => ?_) (fun π => ?_)
 ·obtain ⟨π, h1, h2⟩ := lsQ_L ⟨_⟩ h
  exact ⟨π, h1, fun l hl => h2 l hl⟩
 have hok := gF_ok (ls := l) (rest := π.rest) (Nat.le_trans hl6 hn)
 have hch : ∀ W, Calls Tryz.prog 53 ⟨[.agg ⟨plC k f⟩, lsV l ⟨[.pointer (some ⟨a, 0, none⟩), .agg ⟨plC k f⟩]⟩ π, .slice none 0 0, .int .i64 1]⟩ W fun e' W' => ∃ π', e' = .returned (chV ⟨[.agg ⟨plC k f⟩, lsV l ⟨[.pointer (some ⟨a, 0, none⟩), .agg ⟨plC k f⟩]⟩ π, .slice none 0 0, .int .i64 1]⟩ π') /\ ∀ m, SatW w (base w) noJ m W -> SatW w (base w) noJ (chO ⟨[.agg ⟨plC k f⟩, lsV l ⟨[.pointer (some ⟨a, 0, none⟩), .agg ⟨plC k f⟩]⟩ π, .slice none 0 0, .int .i64 1]⟩ π' ++ m) W' := fun W => by
  refine (choices_calls k f 1 l [] π.b (capF 1 l.length π.rest) 0 0 W).mono ?_
  rintro e W' ⟨⟨b4, b5, b6, b7⟩, h1, h2, h3, h4⟩
  exact ⟨⟨0, [], [b4, b5, b6, b7], []⟩, h1, fun m hm => satW_L hm h2 h3 h4⟩
 cases l with
 | nil =>
  refine e_callL rfl rfl rfl rfl rfl (by decide) (fun _ => by show List.length [_, _, _, _] <= 4; simp) rfl (fun W hW => hch W) (fun π' => ?_)
  repeat (first|refine xTh ?_|refine c_ret ?_|refine e_val rfl rfl rfl rfl (by first|exact pEv rfl|fail) ?_|refine e_nil rfl ?_|fail)
  refine x_ret rfl rfl (by repeat constructor) rfl (fun W hW => ?_)
  exact movQ_of' ⟨nn π' 0, nn π' 1, nn π' 2, nn π' 3, π.b, capF 1 0 π.rest, restF 1 0 π.rest, 0, 0, []⟩ ⟨hok, fun h => absurd rfl h⟩ hW (List.Perm.refl _)
 | cons x l =>
  refine e_callL rfl rfl rfl rfl rfl (by decide) (fun _ => by show List.length [_, _, _, _] <= 4; simp) rfl (fun W hW => hch W) (fun π' => ?_)
  repeat (first|refine xTh ?_|refine c_ret ?_|refine e_val rfl rfl rfl rfl (by first|exact pEv rfl|fail) ?_|refine e_nil rfl ?_|fail)
  refine x_ret rfl rfl (by repeat constructor) rfl (fun W hW => ?_)
  exact movQ_of' ⟨nn π' 0, nn π' 1, nn π' 2, nn π' 3, π.b, capF 1 (x :: l).length π.rest, restF 1 (x :: l).length π.rest, 0, 0, []⟩ ⟨hok, fun h => absurd rfl h⟩ hW (List.perm_append_comm (l₁ := [_]) (l₂ := [_, _, _, _]) |>.append_right _)
/-! ## The players -/
def plO (b : Nat) : List Value := [.func (.func 52) ⟨[]⟩ ⟨[.pointer (some ⟨b, 0, none⟩)]⟩, .func (.func 54) ⟨[]⟩ ⟨[.pointer (some ⟨b, 0, none⟩)]⟩]
def plD (a b : Nat) : List Value := [.func (.func 66) ⟨[]⟩ ⟨[.pointer (some ⟨b, 0, none⟩)]⟩, .func (.func 35) ⟨[.pointer (some ⟨a, 0, none⟩)]⟩ ⟨[]⟩]
def bxG (a : Nat) : Obj := .cells ⟨[.pointer (some ⟨a, 0, none⟩)]⟩ 49 (0, 0)
theorem others_calls (a : Nat) (w : World) : Calls Tryz.prog 25 ⟨[.pointer (some ⟨a, 0, none⟩)]⟩ w fun e w' => ∃ b, e = .returned (.agg ⟨plO b⟩) /\ Below w.heap.size w w' /\ w.heap.size <= b /\ w'.heap[b]? = some (bxG a) := by
 refine fEn Tryz.func25 rfl Tryz.ntmps25 rfl rfl (sWn w) ?_
 repeat (first|refine lVa rfl rfl (by first|exact pEv rfl|exact v_build rfl rfl (by rfl)|fail) ?_|refine lNi ?_|refine cRg ?_|refine cSq ?_|refine xTh ?_|refine r_box rfl rfl rfl rfl (fun _ => ?_)|refine r_alloc rfl rfl rfl (by first|exact aggL|fail) (fun _ => ?_)|refine rSt rfl rfl rfl rfl rfl rfl rfl (by repeat constructor) (by rfl) ?_|refine c_ret ?_|fail)
 refine x_ret rfl rfl (by repeat constructor) rfl (fun W hW => ?_)
 have h := hW.own (_, bxG a) (by repeat constructor)
 exact ⟨_, rfl, hW.below, Nat.le_of_not_lt h.1, h.2⟩
theorem desk_calls (a : Nat) (w : World) : Calls Tryz.prog 33 ⟨[.pointer (some ⟨a, 0, none⟩)]⟩ w fun e w' => ∃ b, e = .returned (.agg ⟨plD a b⟩) /\ Below w.heap.size w w' /\ w.heap.size <= b /\ w'.heap[b]? = some (bxG a) := by
 refine fEn Tryz.func33 rfl Tryz.ntmps33 rfl rfl (sWn w) ?_
 repeat (first|refine lVa rfl rfl (by first|exact pEv rfl|exact vLd rfl (by repeat constructor) rfl (by rfl)|exact v_build rfl rfl (by rfl)|fail) ?_|refine lNi ?_|refine cRg ?_|refine cSq ?_|refine xTh ?_|refine r_box rfl rfl rfl rfl (fun _ => ?_)|refine r_alloc rfl rfl rfl (by first|exact aggL|fail) (fun _ => ?_)|refine rSt rfl rfl rfl rfl rfl rfl rfl (by repeat constructor) (by rfl) ?_|refine c_ret ?_|fail)
 refine x_ret rfl rfl (by repeat constructor) rfl (fun W hW => ?_)
 have h := hW.own (_, bxG a) (by repeat constructor)
 exact ⟨_, rfl, hW.below, Nat.le_of_not_lt h.1, h.2⟩
/-! ## The first good choice -/
structure Mp where
 es : List MapEntry
 cl : Nat
def Mp.o (m : Mp) : Obj := .map ⟨m.es⟩ m.cl
/-- what `first` hands back -/
def fV (o : Option (List Nat)) (k : Int) (f : Nat -> Int) (la : Int) (_ : Array Value) (π : Pi) : Value := match o with
 | some S => .tuple ⟨[gSl S π.b (capF 1 S.length π.rest), .agg ⟨plC (k + la) (putF f S (k + 1))⟩, .bool true]⟩
 | none => .tuple ⟨[.slice none 0 0, .agg ⟨plC 0 fun _ => 0⟩, .bool false]⟩
def fM (o : Option (List Nat)) (_ : Array Value) (π : Pi) : List (Nat × Obj) := match o with
 | some S => gM nE 3 S π.b (restF 1 S.length π.rest)
 | none => []
def FirstQ (m : Nat) (R : MapEntry -> Prop) (o : Option (List Nat)) (k : Int) (f : Nat -> Int) (la : Int) (w : World) (e : Ending) (w' : World) : Prop :=
 ∃ π, ∃ es : Mp, e = .returned (fV o k f la #[] π) /\ Same (fun x => x ≠ m) w w' /\ w'.heap[m]? = some es.o /\ (∀ x ∈ es.es, R x) /\ ((fM o #[] π).map (·.1)).Nodup /\ ∀ p ∈ fM o #[] π, w.heap.size <= p.1 /\ w'.heap[p.1]? = some p.2
theorem mSub_app {a b : List (Nat × Obj)} (h : MSub a b) : ∀ p : List (Nat × Obj), MSub (p ++ a) (p ++ b)
 | [] => h
 | x :: p => MSub.keep rfl (mSub_app h p)
theorem find_at {α : Type} {g : α -> Bool} : ∀ {l : List α} {i : Nat} {x : α}, (∀ y ∈ l.take i, g y = false) -> l[i]? = some x -> g x = true -> l.find? g = some x
 | y :: l, 0, x, _, h, hx => by cases h; rw [List.find?_cons, hx]
 | y :: l, i + 1, x, ht, h, hx => by
  rw [List.find?_cons, ht y (by simp)]
  exact find_at (i := i) (fun z hz => ht z (by simp [hz])) (by simpa using h) hx
theorem find_no {α : Type} {g : α -> Bool} {l : List α} (h : ∀ y ∈ l, g y = false) : l.find? g = none := List.find?_eq_none.2 fun y hy => by rw [h y hy]; decide
theorem res_first {env : List (Nat × Value)} {mem : List (Nat × Obj)} {b4 b5 b6 : Nat} {X : Value} {k : Int} {f : Nat -> Int} {t : Bool} (h4 : Go.Kin.look env 4 = some (.pointer (some ⟨b4, 0, none⟩))) (h5 : Go.Kin.look env 5 = some (.pointer (some ⟨b5, 0, none⟩))) (h6 : Go.Kin.look env 6 = some (.pointer (some ⟨b6, 0, none⟩)))
  (m4 : (b4, Obj.cells ⟨[X]⟩ 37 (0, 0)) ∈ mem) (m5 : (b5, Obj.cells ⟨plC k f⟩ 54 (0, 0)) ∈ mem) (m6 : (b6, Obj.cells ⟨[.bool t]⟩ 4 (0, 0)) ∈ mem) : Res tt env mem [.cell 4 37, .cell 5 54, .cell 6 4] [X, .agg ⟨plC k f⟩, .bool t] :=
 Res.cell (kd := .slice 3) (sz := 1) h4 m4 rfl rfl (Res.cell (kd := .struct [(3, 0), (52, 1)]) (sz := 7) h5 m5 rfl (RowAt.agg ⟨by omega, by simp⟩ plC_len) (Res.cell (kd := .bool) (sz := 1) h6 m6 rfl rfl Res.nil))
theorem split_self : ∀ m : List (Nat × Obj), Split m [] m
 | [] => Split.nil
 | _ :: m => Split.keep (split_self m)
theorem splice_all {cs vs : List Value} (h : cs.length = vs.length) : splice cs 0 vs = vs := by unfold splice; simp [h]
abbrev FS := (Nat × Mp) ⊕ (List Nat × Nat × Nat × List Value × Mp)
theorem first_calls (m fm fg : Nat) [Ent Tryz.prog fm] [Ent Tryz.prog fg] (cm fs cs : List Value) (k : Int) (f : Nat -> Int) (la : Int) (ps must : List Nat) (good : List Nat -> Bool) (R : MapEntry -> Prop) (es : Mp) (w : World)
  (hn : ps.length <= 6) (hmu : must.length <= 6) (hps : ∀ q ∈ ps, q < 6) (hk : 0 <= k /\ k <= 100) (hla : 0 <= la /\ la <= 1) (hes : ∀ x ∈ es.es, R x) (hm : w.heap[m]? = some es.o)
  (hmv : ∀ W, Same (fun x => x ≠ m) w W -> Calls Tryz.prog fm ⟨[] ++ [.agg ⟨plC k f⟩] ++ cm⟩ W (MovQ k f la ps must W))
  (hgd : ∀ S ∈ allCh ps must, ∀ (W : World) (es : Mp), Same (fun x => x ≠ m) w W -> W.heap[m]? = some es.o -> (∀ x ∈ es.es, R x) -> Calls Tryz.prog fg ⟨fs ++ [.agg ⟨plC (k + la) (putF f S (k + 1))⟩] ++ cs⟩ W fun e W' =>
   ∃ es' : { es : Mp // ∀ x ∈ es.es, R x }, e = .returned (.bool (good S)) /\ Same (fun x => x ≠ m) W W' /\ W'.heap[m]? = some es'.1.o) :
  Calls Tryz.prog 38 ⟨[.agg ⟨[.func (.func fm) ⟨[]⟩ ⟨cm⟩, .func (.func fg) ⟨fs⟩ ⟨cs⟩]⟩, .agg ⟨plC k f⟩]⟩ w (FirstQ m R ((allCh ps must).find? good) k f la w) := by
 have hsame : ∀ {mem : List (Nat × Obj)} {W : World}, SatW w (allBut w [m]) noJ mem W -> Same (fun x => x ≠ m) w W := fun hW => hW.same.monoLt fun k hk hne => ⟨hk, by simpa using hne⟩
 refine fEn Tryz.func38 rfl Tryz.ntmps38 rfl rfl (satW_fresh (m := [(m, es.o)]) (by simp) (by simpa using hm)) ?_
 repeat (first|refine r_alloc rfl rfl rfl (plC_zero rfl) (fun _ => ?_)|refine lVa rfl rfl (v_loadAll rfl (by repeat constructor) rfl rfl plC_len) ?_|refine lVa rfl rfl (by first|exact pEv rfl|exact vLd rfl (by repeat constructor) rfl (by rfl)|fail) ?_|refine lNi ?_|refine cRg ?_|refine cSq ?_|refine xTh ?_|refine r_box rfl rfl rfl rfl (fun _ => ?_)|refine r_alloc rfl rfl rfl (by first|exact aggL|fail) (fun _ => ?_)|fail)
 refine r_callvL (ι := { c : CB // c.OK ps must }) (v := fun c => c.1.v) (ms := fun c => c.1.ms k f la ps must) rfl rfl rfl rfl rfl (fun W hW => ?_) ?_
 ·refine (hmv W (hsame hW)).mono ?_
  rintro e W' ⟨c, h1, h2, h3, h4, h5⟩
  exact ⟨⟨c, h1⟩, h2, h3, h4, h5⟩
 rintro ⟨c, hc⟩
 repeat (first|refine lNi ?_|refine xTh ?_|refine cBl ?_|fail)
 rename_i b2 b3 b4 b5 b6
 refine c_rangeH (chH k f la) (allCh ps must) (fun x => x ∈ (c.ms k f la ps must).map (·.1)) (c.ms k f la ps must) (ι := FS) (fun o => match o with | .inl s => s.1 | .inr _ => 0)
  (fun o => match o with | .inl s => (∀ S ∈ (allCh ps must).take s.1, good S = false) /\ ∀ x ∈ s.2.es, R x | .inr _ => False)
  (fun o => match o with
   | .inl s => [(b6, .cells ⟨[.bool false]⟩ 4 (0, 0)), (b5, .cells ⟨plC 0 fun _ => 0⟩ 54 (0, 0)), (b4, .cells ⟨[.slice none 0 0]⟩ 37 (0, 0)), (b2, .cells ⟨[.func (.func fm) ⟨[]⟩ ⟨cm⟩, .func (.func fg) ⟨fs⟩ ⟨cs⟩]⟩ 59 (0, 0)), (m, s.2.o)]
   | .inr s => [(b6, .cells ⟨[.bool true]⟩ 4 (0, 0)), (b5, .cells ⟨plC (k + la) (putF f s.1 (k + 1))⟩ 54 (0, 0)), (b4, .cells ⟨[gSl s.1 s.2.1 s.2.2.1]⟩ 37 (0, 0)), (m, s.2.2.2.2.o)] ++ gM nE 3 s.1 s.2.1 s.2.2.2.1)
  (fun cd o => cd = .ret /\ ∃ s, o = .inr s /\ (allCh ps must).find? good = some s.1 /\ gOK nE 1 s.1 s.2.2.1 s.2.2.2.1 /\ ∀ x ∈ s.2.2.2.2.es, R x)
  (.inl (0, es)) rfl (fun W W1 hW hS => cb_it c hn hmu hps hk hla hW (fun p hp => List.mem_append_left _ hp) hS) (fun b hb => .inr hb) (fun x _ vs ms h => by obtain ⟨b, cap, rest, _, rfl, _⟩ := h; rfl) (by decide) rfl ⟨by simp, hes⟩ (mSub_app (by repeat (first|exact .nil|refine .keep (by first|rfl|assumption) ?_|refine .drop ?_|exact MSub.refl _)) _)
  (env' := [(2, .pointer (some ⟨b2, 0, none⟩)), (4, .pointer (some ⟨b4, 0, none⟩)), (5, .pointer (some ⟨b5, 0, none⟩)), (6, .pointer (some ⟨b6, 0, none⟩))]) (by repeat (first|exact .nil|refine .cons rfl (by first|rfl|(congr 1; done)|exact congrArg _ (by omega)|(simp; done)) ?_)) ?_ ?_ ?_
 ·rintro (⟨i, es1⟩ | x) hI hki vs ms hH n l W hW hDl hol
  rotate_left
  ·exact hI.elim
  obtain ⟨hI1, hI2⟩ := hI
  simp only at hI1 hI2 hki hH hW hol ⊢
  obtain ⟨bb, cap, rest, hg, rfl, rfl⟩ := hH
  obtain ⟨S, hS⟩ : ∃ S, (allCh ps must)[i] = S := ⟨_, rfl⟩
  have hS2 : (allCh ps must)[i]? = some S := by rw [List.getElem?_eq_getElem hki, hS]
  rw [hS] at hg hW hol ⊢
  have hSm := List.mem_of_getElem? hS2
  refine c_perm (List.perm_append_comm) ?_
  simp only [List.cons_append, List.nil_append]
  repeat (first|refine r_alloc rfl rfl rfl (plC_zero rfl) (fun _ => ?_)|refine rSt (vs := plC _ _) rfl rfl rfl rfl rfl plC_beq plC_one (by repeat constructor) (putAll (plC_len.trans plC_len.symm)) ?_|refine lVa rfl rfl (by first|exact pEv rfl|fail) ?_|refine lNi ?_|refine cRg ?_|refine cSq ?_|refine xTh ?_|fail)
  refine x_body hW hDl hol (fun n2 W2 r2 hW2 hr2 ho => ?_)
  rename_i b8
  repeat (first|refine lVa rfl rfl (v_loadAll rfl (by repeat constructor) rfl rfl plC_len) ?_|refine lVa rfl rfl (by first|exact pEv rfl|exact vLd rfl (by repeat constructor) rfl (by rfl)|fail) ?_|refine cRg ?_|refine cSq ?_|refine cBl ?_|fail)
  refine r_callvuI (b := m) (o := es1.o) (ι := { es : Mp // ∀ x ∈ es.es, R x }) (v := fun _ => .bool (good S)) (o' := fun e => e.1.o)
   (mem' := fun e => (b8, .cells ⟨plC (k + la) (putF f S (k + 1))⟩ 54 (0, 0)) :: (b6, .cells ⟨[.bool false]⟩ 4 (0, 0)) :: (b5, .cells ⟨plC 0 fun _ => 0⟩ 54 (0, 0)) :: (b4, .cells ⟨[.slice none 0 0]⟩ 37 (0, 0)) :: (b2, .cells ⟨[.func (.func fm) ⟨[]⟩ ⟨cm⟩, .func (.func fg) ⟨fs⟩ ⟨cs⟩]⟩ 59 (0, 0)) :: (m, e.1.o) :: gM nE 3 S bb rest) rfl rfl rfl rfl rfl (by repeat constructor) (fun e => (by repeat constructor)) (fun W3 hW3 hm3 => ?_) ?_
  ·exact (hgd S hSm W3 es1 (hsame (hW2.back hW3)) hm3 hI2)
  rintro ⟨es2, hes2⟩
  simp only
  cases hgo : good S with
  | false =>
   repeat (first|refine lNi ?_|refine xTh ?_|refine c_false rfl ?_|refine cSk ?_|refine x_block ?_|fail)
   refine x_next (.inl (i + 1, es2)) rfl ⟨fun y hy => ?_, hes2⟩ (by repeat (first|exact .nil|refine .keep (by first|rfl|assumption) ?_|refine .drop ?_|exact MSub.refl _))
   rw [List.take_add_one, hS2] at hy
   rcases List.mem_append.1 hy with h | h
   ·exact hI1 y h
   ·simp only [Option.toList_some, List.mem_singleton] at h
    rw [h]; exact hgo
  | true =>
   repeat ((fail_if_success refine c_probe (id := 5) ?_); (fail_if_success refine c_probe1 (id := 5) ?_); first|refine lNi ?_|refine xTh ?_|refine c_true rfl ?_|fail)
   refine cSq ?_
   refine c_gen [(2,3),(3,2),(4,1)] [(2,3,0,1),(3,2,0,7),(4,1,0,1)] [] rfl (by decide +kernel) (by repeat' (first|exact trivial|apply And.intro|exact Or.inl (Nat.ne_of_beq_eq_false rfl)|(right; simp only; omega))) ?_; skip
   repeat (first|refine g_val rfl rfl rfl (v_loadAll rfl (by repeat constructor) rfl rfl plC_len) ?_|refine g_store (vs := [gSl S bb cap]) rfl rfl rfl gSl_cells rfl rfl gSl_one rfl rfl rfl rfl (by decide) (splice_lit (by rfl)) rfl ?_|refine g_store (vs := plC _ _) rfl rfl rfl rfl rfl plC_beq plC_one rfl rfl rfl rfl (by rw [plC_len]; decide) (splice_all (plC_len.trans plC_len.symm)) rfl ?_|refine xTh ?_|refine c_ret ?_|refine xBr ?_|refine g_val rfl rfl rfl (by first|exact pEv rfl|fail) ?_|refine g_store rfl rfl rfl rfl rfl rfl rfl rfl (by first|rfl|fail) rfl rfl (by first|(simp; done)|fail) (by first|exact splice_lit (by rfl)|fail) rfl ?_|refine g_nil ?_|fail)
   simp only [List.set_cons_succ, List.set_cons_zero]
   exact x_leave_ret (.inr (S, bb, cap, rest, es2)) ⟨rfl, _, rfl, find_at hI1 hS2 hgo, hg, hes2⟩ (by repeat (first|exact .nil|refine .keep (by first|rfl|assumption) ?_|refine .drop ?_|exact MSub.refl _))
 ·rintro B (⟨i, es1⟩ | x) hk2 hI
  rotate_left
  ·exact hI.elim
  obtain ⟨hI1, hI2⟩ := hI
  simp only at hk2 hI1 hI2 ⊢
  subst hk2
  rw [List.take_length] at hI1
  have hno := find_no hI1
  rw [hno]
  repeat ((fail_if_success refine c_probe (id := 6) ?_); (fail_if_success refine c_probe1 (id := 6) ?_); first|refine xTh ?_|refine x_block ?_|fail)
  refine cSq ?_
  refine c_perm (((List.perm_append_comm (l₁ := c.ms k f la ps must) (l₂ := [_, _, _, _, _])).cons _).trans (List.perm_middle (l₁ := [_, _, _, _, _])).symm) ?_
  simp only [List.cons_append, List.nil_append]
  refine c_gen [(1,2),(2,1),(3,0)] [(1,2,0,1),(2,1,0,7),(3,0,0,1)] [(0,1)] rfl (by decide +kernel) (by repeat' (first|exact trivial|apply And.intro|exact Or.inl (Nat.ne_of_beq_eq_false rfl)|(right; simp only; omega))) ?_; skip
  repeat (first|refine g_val rfl rfl rfl (v_loadAll rfl (by repeat constructor) rfl rfl plC_len) ?_|refine g_store (vs := plC _ _) rfl rfl rfl rfl rfl plC_beq plC_one rfl rfl rfl rfl (by rw [plC_len]; decide) (splice_all (plC_len.trans plC_len.symm)) rfl ?_|refine xTh ?_|refine c_ret ?_|refine g_store rfl rfl rfl rfl rfl rfl rfl rfl (by first|rfl|fail) rfl rfl (by first|(simp; done)|fail) (by first|exact splice_lit (by rfl)|fail) rfl ?_|refine g_nil ?_|fail)
  simp only [List.set_cons_succ, List.set_cons_zero]
  refine x_rets (Ds := [B]) rfl rfl (Split.keep (Split.keep (Split.keep (Split.keep (Split.keep (Split.mark (split_self _))))))) rfl (res_first rfl rfl rfl (by repeat constructor) (by repeat constructor) (by repeat constructor)) rfl (fun W hW => ?_)
  exact ⟨⟨0, [], [], []⟩, es1, rfl, hsame hW, (hW.own (m, es1.o) (by repeat constructor)).2, hI2, List.nodup_nil, fun p hp => by cases hp⟩
 ·rintro B cd o ⟨rfl, ⟨S, bb, cap, rest, es1⟩, rfl, hfi, hg, hI2⟩
  simp only at hfi hg hI2 ⊢
  rw [hfi]
  repeat (first|refine c_ret ?_|refine xTr ?_|refine xBr ?_|fail)
  refine x_rets (Ds := [B]) rfl rfl (Split.mark (split_self _)) rfl (res_first rfl rfl rfl (List.mem_append_right _ (by repeat constructor)) (List.mem_append_right _ (by repeat constructor)) (List.mem_append_right _ (by repeat constructor))) rfl (fun W hW => ?_)
  obtain ⟨e1, e2⟩ := gF (b := bb) hg
  have hsub : ∀ p ∈ gM nE 3 S bb rest, p ∈ c.ms k f la ps must ++ ([(b6, Obj.cells ⟨[.bool true]⟩ 4 (0, 0)), (b5, .cells ⟨plC (k + la) (putF f S (k + 1))⟩ 54 (0, 0)), (b4, .cells ⟨[gSl S bb cap]⟩ 37 (0, 0)), (m, es1.o)] ++ gM nE 3 S bb rest) := fun p hp => List.mem_append_right _ (List.mem_append_right _ hp)
  refine ⟨⟨bb, rest, [], []⟩, es1, by show _ = Ending.returned (.tuple ⟨[gSl S bb (capF 1 S.length rest), _, _]⟩); rw [e1], hsame hW, (hW.own (m, es1.o) (List.mem_append_right _ (by repeat constructor))).2, hI2, ?_, fun p hp => ?_⟩
  ·unfold fM
   simp only
   cases S <;> simp [gM]
  ·have hp : p ∈ gM nE 3 S bb (restF 1 S.length rest) := hp
   rw [e2] at hp
   have h1 := hW.own p (hsub p hp)
   refine ⟨Nat.le_of_not_lt fun h => h1.1 ⟨h, ?_⟩, h1.2⟩
   intro hpm
   have hpm : p.1 = m := by simpa using hpm
   have hnd := hW.nodup
   rw [List.map_append, List.map_append, List.nodup_append] at hnd
   have h3 := (List.nodup_append.1 hnd.2.1).2.2 m (by simp) p.1 (List.mem_map.2 ⟨p, hp, rfl⟩)
   exact h3 hpm.symm
end R24
end Go.Proofs
