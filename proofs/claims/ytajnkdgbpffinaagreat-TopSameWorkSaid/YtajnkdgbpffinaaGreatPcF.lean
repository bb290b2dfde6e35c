/- A sign removed, walked. -/
import Derived.Test.YtajnkdgbpffinaaGreatEng55
import Derived.Test.YtajnkdgbpffinaaGreatPcB
import Derived.Test.YtajnkdgbpffinaaGreatRgG
set_option maxRecDepth 100000
set_option maxHeartbeats 400000000
set_option linter.unusedSectionVars false
set_option linter.unusedVariables false
set_option linter.unusedSimpArgs false
namespace Go.Proofs
open Go.RowKit Go.Kin Go.Kin.Cl
namespace R41
theorem flat_get {sz : Nat} (hz : 0 < sz) : ∀ (rows : List (List Value)) (j : Nat) (v : Value), (∀ r ∈ rows, r.length = sz) -> rows.flatten[j]? = some v -> ∃ r, rows[j / sz]? = some r /\ r[j % sz]? = some v
 | [], j, v, _, h => by simp at h
 | r :: rows, j, v, hs, h => by
  have hr := hs r List.mem_cons_self
  rw [List.flatten_cons] at h
  by_cases hj : j < sz
  ·rw [List.getElem?_append_left (by omega)] at h
   exact ⟨r, by rw [Nat.div_eq_of_lt hj]; rfl, by rw [Nat.mod_eq_of_lt hj]; exact h⟩
  ·rw [List.getElem?_append_right (by omega), hr] at h
   obtain ⟨q, h1, h2⟩ := flat_get hz rows (j - sz) v (fun x hx => hs x (List.mem_cons_of_mem _ hx)) h
   have e1 : j / sz = (j - sz) / sz + 1 := by
    conv => lhs; rw [show j = (j - sz) + sz by omega]
    rw [Nat.add_div_right _ hz]
   have e2 : j % sz = (j - sz) % sz := by
    conv => lhs; rw [show j = (j - sz) + sz by omega]
    rw [Nat.add_mod_right]
   exact ⟨q, by rw [e1, List.getElem?_cons_succ]; exact h1, by rw [e2]; exact h2⟩
theorem at_drop {w : World} {A : Option Addr} {sz : Nat} {rows : List (List Value)} (hA : Kin.At w A sz rows) (hz : 0 < sz) (hs : ∀ r ∈ rows, r.length = sz) {i : Nat} (hi : i < rows.length) :
  ∃ b o, A = some ⟨b, o, none⟩ /\ b < w.heap.size /\ ∀ k, i <= k -> ∀ j v, (rows.drop k).flatten[j]? = some v -> w.cell? ⟨b, o + k * sz + j, none⟩ = some v := by
 have hr := hs _ (List.getElem_mem hi)
 obtain ⟨b, o, rfl, hc⟩ := hA i rows[i] (List.getElem?_eq_getElem hi)
 refine ⟨b, o, rfl, lt_of_cell (hc 0 (rows[i][0]'(by omega)) (List.getElem?_eq_getElem _)), fun k hk j v hj => ?_⟩
 obtain ⟨r, h1, h2⟩ := flat_get hz _ j v (fun r hr => hs r (List.mem_of_mem_drop hr)) hj
 rw [List.getElem?_drop] at h1
 obtain ⟨b', o', e, hc'⟩ := hA _ r h1
 cases e
 have h3 := hc' _ v h2
 have h4 := Nat.div_add_mod j sz
 have e4 : o + (k + j / sz) * sz + j % sz = o + k * sz + j := by
  rw [Nat.add_mul, Nat.mul_comm (j / sz) sz]; omega
 rw [e4] at h3
 exact h3
theorem sgE_len (x : Sg) : (sgE x).length = 14 := rfl
theorem sgE_rows (l : List Sg) : ((l.map sgE).flatten).length = l.length * 14 := by
 induction l with
 | nil => rfl
 | cons x l ih => rw [List.map_cons, List.flatten_cons, List.length_append, ih, sgE_len, List.length_cons]; omega
theorem apply23_calls (A : Option Addr) (cap : Nat) (l : List Sg) (i : Nat) (pid id : Int) (w : World) (hA : Kin.At w A 14 (l.map sgE)) (hl : l.length <= 100000) (hcap : l.length <= cap) (hr : ∀ s ∈ l, 0 <= s.id /\ s.id <= 1048576) (hid : 0 <= id /\ id <= 1048576)
  (hi : i < l.length) (hlo : ∀ (j : Nat) (s : Sg), l[j]? = some s -> j < i -> s.id < id) (hat : ∀ s, l[i]? = some s -> s.id = id) (hhi : ∀ (j : Nat) (s : Sg), l[j]? = some s -> i < j -> id < s.id) (hne : i + 1 < l.length) :
  Calls Tryz.prog 23 ⟨[.slice A l.length cap, .agg ⟨rmE pid id⟩]⟩ w (FrQ [] (fun x : { x : Nat × Nat × List Value // l.length - 1 <= x.2.1 } => .tuple ⟨[.slice (some ⟨x.1.1, 0, none⟩) (l.length - 1) x.1.2.1, .int .i64 0]⟩)
   (fun x => [(x.1.1, .cells ⟨((l.eraseIdx i).map sgE).flatten ++ x.1.2.2⟩ 32 (0, 0))]) w) := by
 have hsat := frQ_start (W := w) (pre := []) (by simp) fun p hp => by cases hp
 have hc := fun W (hB : Under w.heap.size w W) => at52_calls A cap l i id W (hA.later hB) hl hr hid hi hlo hat hhi
 have hbl : ∀ {mem : List (Nat × Obj)} {W : World}, SatW w (allBut w (List.map (·.1) ([] : List (Nat × Obj)))) noJ mem W -> Under w.heap.size w W := fun hW => hW.same.below (Nat.le_refl _) fun k hk => ⟨hk, by simp⟩
 obtain ⟨b, o, rfl, hb, hx⟩ := at_drop (i := 0) hA (by decide) (fun r hr => by obtain ⟨s, _, rfl⟩ := List.mem_map.1 hr; rfl) (by rw [List.length_map]; omega)
 have x1 : Ext w (allBut w (List.map (·.1) ([] : List (Nat × Obj)))) b o ((l.take i).map sgE).flatten := ⟨⟨hb, by simp⟩, fun j v hj => by
  have h1 := hx 0 (Nat.le_refl _) j v (by
   rw [List.drop_zero]
   conv => lhs; rw [<- List.take_append_drop i l, List.map_append, List.flatten_append]
   rw [List.getElem?_append_left (List.getElem?_eq_some_iff.1 hj).1]; exact hj)
  rw [Nat.zero_mul, Nat.add_zero] at h1; exact h1⟩
 have x2 : Ext w (allBut w (List.map (·.1) ([] : List (Nat × Obj)))) b (o + (i + 1) * 14) ((l.drop (i + 1)).map sgE).flatten := ⟨⟨hb, by simp⟩, fun j v hj => hx (i + 1) (Nat.zero_le _) j v (by rw [<- List.map_drop]; exact hj)⟩
 obtain ⟨n, hn⟩ : ∃ n, l.length = n := ⟨_, rfl⟩
 have e1 : l.eraseIdx i = l.take i ++ l.drop (i + 1) := List.eraseIdx_eq_take_drop_succ ..
 have l1 : ((l.take i).map sgE).flatten.length = i * 14 := by rw [sgE_rows, List.length_take]; congr 1; omega
 have l2 : ((l.drop (i + 1)).map sgE).flatten.length = (n - (i + 1)) * 14 := by rw [sgE_rows, List.length_drop, hn]
 rw [e1, List.map_append, List.flatten_append]
 generalize ((l.take i).map sgE).flatten = X at *
 generalize ((l.drop (i + 1)).map sgE).flatten = Y at *
 rw [hn] at hl hi hne hcap hc ⊢
 have hXY : (X ++ Y).length = (n - 1) * 14 := by rw [List.length_append, l1, l2, <- Nat.add_mul]; congr 1; omega
 refine fEn Tryz.func23 rfl Tryz.ntmps23 rfl rfl hsat ?_
 clear hlo hat hhi hr hx e1 hA
 repeat ((fail_if_success refine c_probe (id := 1) ?_); (fail_if_success refine c_probe1 (id := 1) ?_); first|refine lVa rfl rfl (by first|exact pEv rfl|fail) ?_|refine lNi ?_|refine cRg ?_|refine cSq ?_|refine xTh ?_|refine r_box rfl rfl rfl rfl (fun _ => ?_)|fail)
 refine cSq ?_
 repeat (first|refine lVa rfl rfl (by first|exact pEv rfl|exact vLd rfl (by repeat constructor) rfl (by rfl)|fail) ?_|refine cRg ?_|fail)
 refine r_call rfl rfl rfl (fun W hW => hc W (hbl hW)) ?_
 repeat ((fail_if_success refine c_probe (id := 9) ?_); (fail_if_success refine c_probe1 (id := 9) ?_); first|refine lVa rfl rfl (by first|exact pEv rfl|exact vLd rfl (by repeat constructor) rfl (by rfl)|fail) ?_|refine lNi ?_|refine cRg ?_|refine cSq ?_|refine xTh ?_|refine l_skip rfl rfl ?_|refine c_true rfl ?_|refine c_false rfl ?_|refine cBl ?_|fail)
 refine cSq ?_
 refine c_new 0 1 [(8, .app 0 none 14)] [(8, [0])] [] rfl (by decide +kernel) rfl ?_
 repeat (first|refine e_val rfl rfl rfl rfl (v_slice3 (h := i) rfl rfl rfl rfl rfl rfl rfl (by omega)) ?_|refine e_val rfl rfl rfl rfl (v_sliceL (l := i + 1) rfl rfl rfl rfl (by omega) (by omega) (by omega)) ?_|refine e_val rfl rfl rfl rfl (by first|exact v_add rfl rfl (by omega) (by omega)|exact pEv rfl|fail) ?_|fail)
 refine e_appG (e := 32) (xs := X ++ Y) (n := n - 1) rfl rfl rfl rfl (by decide) hXY (by unfold maxLen; omega) rfl ?_ ?_
 ·exact a_appendG (xs := X) (ys := Y) (n := i) (m := n - (i + 1)) rfl rfl rfl rfl (news_ext x1) (news_ext x2) l1 l2 (by omega) rfl (by omega) (by omega) (by unfold maxLen; omega)
 intro bn cn rest hg
 repeat (first|refine xTh ?_|refine c_ret ?_|refine xTr ?_|refine xBr ?_|refine e_val rfl rfl rfl rfl (by first|exact pEv rfl|fail) ?_|refine e_nil rfl ?_|fail)
 exact x_ret rfl rfl (by repeat constructor) rfl (fun W hW => ⟨⟨(bn, cn, rest), hg.le⟩, rfl, hW.mono (List.Sublist.cons_cons _ (List.nil_sublist _))⟩)
theorem apply23_last (A : Option Addr) (cap : Nat) (l : List Sg) (i : Nat) (pid id : Int) (w : World) (hA : Kin.At w A 14 (l.map sgE)) (hl : l.length <= 100000) (hcap : l.length <= cap) (hr : ∀ s ∈ l, 0 <= s.id /\ s.id <= 1048576) (hid : 0 <= id /\ id <= 1048576)
  (hlo : ∀ (j : Nat) (s : Sg), l[j]? = some s -> j < i -> s.id < id) (hat : ∀ s, l[i]? = some s -> s.id = id) (hne : i + 1 = l.length) :
  Calls Tryz.prog 23 ⟨[.slice A l.length cap, .agg ⟨rmE pid id⟩]⟩ w fun e w' => e = .returned (.tuple ⟨[.slice A i i, .int .i64 0]⟩) /\ Under w.heap.size w w' := by
 have hc := fun W (hB : Under w.heap.size w W) => at52_calls A cap l i id W (hA.later hB) hl hr hid (by omega) hlo hat (fun j s hj hij => by have := (List.getElem?_eq_some_iff.1 hj).1; omega)
 obtain ⟨b, o, rfl, hb, hx⟩ := at_drop (i := 0) hA (by decide) (fun r hr => by obtain ⟨s, _, rfl⟩ := List.mem_map.1 hr; rfl) (by rw [List.length_map]; omega)
 rw [<- hne] at hl hcap hc ⊢
 refine fEn Tryz.func23 rfl Tryz.ntmps23 rfl rfl (sWn w) ?_
 clear hlo hat hr hx hA hne
 repeat ((fail_if_success refine c_probe (id := 1) ?_); (fail_if_success refine c_probe1 (id := 1) ?_); first|refine lVa rfl rfl (by first|exact pEv rfl|fail) ?_|refine lNi ?_|refine cRg ?_|refine cSq ?_|refine xTh ?_|refine r_box rfl rfl rfl rfl (fun _ => ?_)|fail)
 refine cSq ?_
 repeat (first|refine lVa rfl rfl (by first|exact pEv rfl|exact vLd rfl (by repeat constructor) rfl (by rfl)|fail) ?_|refine cRg ?_|fail)
 refine r_call rfl rfl rfl (fun W hW => hc W hW.below) ?_
 by_cases h1 : cap = i + 1
 ·repeat ((fail_if_success refine c_probe (id := 9) ?_); (fail_if_success refine c_probe1 (id := 9) ?_); first|refine lVa rfl rfl (by first|exact pEv rfl|exact vLd rfl (by repeat constructor) rfl (by rfl)|fail) ?_|refine lNi ?_|refine cRg ?_|refine cSq ?_|refine xTh ?_|refine l_skip rfl rfl ?_|refine c_true rfl ?_|refine c_false rfl ?_|refine cBl ?_|fail)
  refine cSq ?_
  refine c_new 0 0 [] [] [] rfl (by decide +kernel) rfl ?_
  repeat (first|refine e_val rfl rfl rfl rfl (v_slice3 (h := i) rfl rfl rfl rfl rfl rfl rfl (by omega)) ?_|refine e_val rfl rfl rfl rfl (v_sliceE (k0 := i + 1) rfl rfl rfl rfl (by omega) (by omega) (by omega)) ?_|refine e_val rfl rfl rfl rfl (by first|exact v_add rfl rfl (by omega) (by omega)|exact pEv rfl|fail) ?_|fail)
  rw [show i + 1 - (i + 1) = 0 by omega]
  refine e_val rfl rfl rfl rfl (v_append0 rfl rfl rfl rfl (Nat.le_refl _)) ?_
  repeat (first|refine xTh ?_|refine c_ret ?_|refine xTr ?_|refine xBr ?_|refine e_val rfl rfl rfl rfl (by first|exact pEv rfl|fail) ?_|refine e_nil rfl ?_|fail)
  exact x_ret rfl rfl (by repeat constructor) rfl (fun W hW => ⟨rfl, hW.below⟩)
 ·repeat ((fail_if_success refine c_probe (id := 9) ?_); (fail_if_success refine c_probe1 (id := 9) ?_); first|refine lVa rfl rfl (by first|exact pEv rfl|exact vLd rfl (by repeat constructor) rfl (by rfl)|fail) ?_|refine lNi ?_|refine cRg ?_|refine cSq ?_|refine xTh ?_|refine l_skip rfl rfl ?_|refine c_true rfl ?_|refine c_false rfl ?_|refine cBl ?_|fail)
  refine cSq ?_
  refine c_new 0 0 [] [] [] rfl (by decide +kernel) rfl ?_
  repeat (first|refine e_val rfl rfl rfl rfl (v_slice3 (h := i) rfl rfl rfl rfl rfl rfl rfl (by omega)) ?_|refine e_val rfl rfl rfl rfl (v_sliceL (l := i + 1) rfl rfl rfl rfl (by omega) (by omega) (by omega)) ?_|refine e_val rfl rfl rfl rfl (by first|exact v_add rfl rfl (by omega) (by omega)|exact pEv rfl|fail) ?_|fail)
  rw [show i + 1 - (i + 1) = 0 by omega]
  refine e_val rfl rfl rfl rfl (v_append0 rfl rfl rfl rfl (Nat.le_refl _)) ?_
  repeat (first|refine xTh ?_|refine c_ret ?_|refine xTr ?_|refine xBr ?_|refine e_val rfl rfl rfl rfl (by first|exact pEv rfl|fail) ?_|refine e_nil rfl ?_|fail)
  exact x_ret rfl rfl (by repeat constructor) rfl (fun W hW => ⟨rfl, hW.below⟩)
end R41
end Go.Proofs

set_option maxRecDepth 100000
set_option maxHeartbeats 400000000
namespace Go.Proofs
open Go.RowKit Go.Kin Go.Kin.Cl
namespace R41
def delS (D : List Int) (l : List Sg) : List Sg := l.filter fun s => !D.contains s.id
theorem erase_filter : ∀ (l : List Sg) (i : Nat) (s : Sg), l.Pairwise (fun a b => a.id < b.id) -> l[i]? = some s -> l.eraseIdx i = l.filter fun x => !(x.id == s.id)
 | [], i, s, _, h => by simp at h
 | x :: l, 0, s, hp, h => by
  cases h
  rw [List.pairwise_cons] at hp
  rw [List.eraseIdx_cons_zero, List.filter_cons_of_neg (by simp)]
  exact (List.filter_eq_self.2 fun y hy => by have := hp.1 y hy; simp; omega).symm
 | x :: l, i + 1, s, hp, h => by
  rw [List.pairwise_cons] at hp
  rw [List.getElem?_cons_succ] at h
  have := hp.1 s (List.mem_of_getElem? h)
  rw [List.eraseIdx_cons_succ, List.filter_cons_of_pos (by simp; omega), erase_filter l i s hp.2 h]
theorem delS_snoc (D : List Int) (d : Int) (l : List Sg) : delS (D ++ [d]) l = (delS D l).filter fun x => !(x.id == d) := by
 unfold delS
 rw [List.filter_filter]
 refine List.filter_congr fun x _ => ?_
 rw [List.contains_eq_mem, List.contains_eq_mem]
 by_cases h1 : x.id ∈ D <;> by_cases h2 : x.id = d <;> simp [h1, h2]
theorem delS_nil (l : List Sg) : delS [] l = l := List.filter_eq_self.2 fun x _ => rfl
theorem at_own {α : Type} {w0 W : World} {D : Nat -> Prop} {J : (Nat -> Prop) -> World -> Prop} {mem : List (Nat × Obj)} {f : α -> List Value} {T : TypeId} {sz : Nat} {l : List α} {b : Nat} {rest : List Value} (hW : SatW w0 D J mem W) (h : (b, Obj.cells ⟨(l.map f).flatten ++ rest⟩ T (0, 0)) ∈ mem)
  (hsz : ∀ x, (f x).length = sz) : At W (some ⟨b, 0, none⟩) sz (l.map f) :=
 hW.rows (b := b) (rest := rest) h rfl (fun r hr => by obtain ⟨y, _, rfl⟩ := List.mem_map.1 hr; exact hsz y)
def pE (p : Int × Int) : List Value := rmE p.1 p.2
structure RunS where
 k : Nat
 A : Option Addr
 cap : Nat
 M : List (Nat × Obj)
theorem Run7_calls (A : Option Addr) (cap : Nat) (l : List Sg) (B : Option Addr) (capB : Nat) (ps : List (Int × Int)) (w : World) (hA : Kin.At w A 14 (l.map sgE)) (hwf : ∀ s ∈ l, s.wf) (hB : Kin.At w B 19 (ps.map pE)) (hl : l.length <= 4096) (hcap : l.length <= cap) (hok : chkS l = 0)
  (hr : ∀ s ∈ l, 0 <= s.id /\ s.id <= 1048576) (hps : ps.length <= 512) (hpid : ∀ p ∈ ps, 1 <= p.1 /\ p.1 <= 1048576) (hnd : (ps.map (·.2)).Nodup) (hin : ∀ p ∈ ps, ∃ s ∈ l, s.id = p.2) :
  Calls Tryz.prog 7 ⟨[.slice A l.length cap, .slice B ps.length capB]⟩ w fun e w' => ∃ i : Option Addr × Nat, e = .returned (.tuple ⟨[.slice i.1 (delS (ps.map (·.2)) l).length i.2, .int .i64 0]⟩) /\ Under w.heap.size w w' /\
   (delS (ps.map (·.2)) l).length <= i.2 /\ Kin.At w' i.1 14 ((delS (ps.map (·.2)) l).map sgE) := by
 have hpw : l.Pairwise (fun a b => a.id < b.id) := by
  unfold chkS at hok
  rw [if_neg (by omega)] at hok
  by_cases h : allS none l = true
  ·exact (allS_get l none h).2.1
  ·rw [if_neg h] at hok; cases hok
 have hc18 := fun W (h : Under w.heap.size w W) => Check18_calls A cap l W (hA.later h) hwf (by omega)
 rw [hok] at hc18
 have hle : ∀ D : List Int, (delS D l).length <= l.length := fun D => List.length_filter_le _ _
 obtain ⟨m, hm⟩ : ∃ m, ps.length = m := ⟨_, rfl⟩
 obtain ⟨n, hn⟩ : ∃ n, l.length = n := ⟨_, rfl⟩
 rw [hm] at hps ⊢
 rw [hn] at hl hcap hc18 hle ⊢
 refine fEn Tryz.func7 rfl Tryz.ntmps7 rfl rfl (sWn w) ?_
 repeat ((fail_if_success refine c_probe (id := 1) ?_); (fail_if_success refine c_probe1 (id := 1) ?_); first|refine lVa rfl rfl (by first|exact pEv rfl|fail) ?_|refine lNi ?_|refine cRg ?_|refine cSq ?_|refine xTh ?_|fail)
 refine cSq ?_
 repeat (first|refine lVa rfl rfl (by first|exact pEv rfl|fail) ?_|refine cRg ?_|refine cSq ?_|fail)
 refine r_call rfl rfl rfl (fun W hW => hc18 W hW.below) ?_
 clear hc18
 repeat ((fail_if_success refine c_probe (id := 8) ?_); (fail_if_success refine c_probe1 (id := 8) ?_); first|refine lVa rfl rfl (by first|exact pEv rfl|fail) ?_|refine lNi ?_|refine cRg ?_|refine cSq ?_|refine xTh ?_|refine c_false rfl ?_|refine c_dec_f rfl (by first|omega|exact fun h => h rfl|fail) ?_|refine cBl ?_|refine cSk ?_|fail)
 refine c_loop (ι := RunS) (fun s => s.k <= m /\ (delS ((ps.take s.k).map (·.2)) l).length <= s.cap /\ ∀ W, SatW w (base w) noJ s.M W -> Kin.At W s.A 14 ((delS ((ps.take s.k).map (·.2)) l).map sgE)) (fun s => [(0, .slice A n cap), (1, .slice B m capB), (4, .slice s.A (delS ((ps.take s.k).map (·.2)) l).length s.cap), (5, .int .i64 0), (17, .slice B m capB), (18, .int .i64 m), (19, .int .i64 s.k)]) (fun s => s.M) (fun s => m - s.k) ⟨0, A, cap, []⟩
  ⟨Nat.zero_le _, by show (delS [] l).length <= cap; rw [delS_nil, hn]; exact hcap, fun W hW => by show Kin.At W A 14 ((delS [] l).map sgE); rw [delS_nil]; exact hA.later hW.below⟩ (by rw [List.take_zero, List.map_nil, delS_nil, hn]; exact (by repeat (first|exact .nil|refine .cons rfl (by first|rfl|(congr 1; done)|exact congrArg _ (by omega)|(simp; done)) ?_))) (by repeat (first|exact .nil|refine .keep (by first|rfl|assumption) ?_|refine .drop ?_|exact MSub.refl _)) ?_
 rintro ⟨k, A', cap', M⟩ ⟨hk, hcp, hAt⟩
 simp only at hk hcp hAt ⊢
 by_cases hlt : k < m
 rotate_left
 ·rw [List.take_of_length_le (by omega)] at hcp hAt ⊢
  repeat ((fail_if_success refine c_probe (id := 17) ?_); (fail_if_success refine c_probe1 (id := 17) ?_); first|refine lVa rfl rfl (by first|exact pEv rfl|fail) ?_|refine lNi ?_|refine cRg ?_|refine cSq ?_|refine xTh ?_|refine c_dec_f rfl (by first|omega|fail) ?_|refine c_exit ?_|refine xTe ?_|refine xBs ?_|fail)
  repeat (first|refine lVa rfl rfl (by first|exact pEv rfl|fail) ?_|refine lNi ?_|refine cRg ?_|refine cSq ?_|refine xTh ?_|refine c_ret ?_|fail)
  exact x_ret rfl rfl (by repeat constructor) rfl (fun W hW => ⟨(A', cap'), rfl, hW.below, hcp, hAt W hW⟩)
 obtain ⟨p, hp⟩ : ∃ p, ps[k]? = some p := ⟨_, List.getElem?_eq_getElem (by omega)⟩
 have hpm := List.mem_of_getElem? hp
 obtain ⟨b, o, rfl, hcS⟩ := hB k (pE p) (by rw [List.getElem?_map, hp]; rfl)
 have x1 := ext_of hcS
 have htk : (ps.take (k + 1)).map (·.2) = (ps.take k).map (·.2) ++ [p.2] := by
  obtain ⟨h1, h2⟩ := List.getElem?_eq_some_iff.1 hp
  rw [List.take_succ_eq_append_getElem h1, h2, List.map_append]; rfl
 have hnin : p.2 ∉ (ps.take k).map (·.2) := by
  have h1 : ((ps.take (k + 1)).map (·.2)).Nodup := (List.Sublist.map _ (List.take_sublist _ _)).nodup hnd
  rw [htk] at h1
  exact fun h => (List.nodup_append.1 h1).2.2 _ h _ (List.mem_singleton.2 rfl) rfl
 obtain ⟨L, hL⟩ : ∃ L, delS ((ps.take k).map (·.2)) l = L := ⟨_, rfl⟩
 have hLs : L.Sublist l := by rw [<- hL]; exact List.filter_sublist
 obtain ⟨s, hsl, hsid⟩ := hin p hpm
 have hsL : s ∈ L := by
  rw [<- hL]; exact List.mem_filter.2 ⟨hsl, by rw [List.contains_eq_mem]; simpa [hsid] using hnin⟩
 obtain ⟨i, hi, hgi⟩ := List.mem_iff_getElem.1 hsL
 have hgi' : L[i]? = some s := by rw [List.getElem?_eq_getElem hi, hgi]
 have hLp : L.Pairwise (fun a b => a.id < b.id) := hpw.sublist hLs
 have hE : L.eraseIdx i = delS ((ps.take (k + 1)).map (·.2)) l := by rw [htk, delS_snoc, hL, erase_filter L i s hLp hgi', hsid]
 have hlo : ∀ (j : Nat) (x : Sg), L[j]? = some x -> j < i -> x.id < p.2 := fun j x hj hji => by
  obtain ⟨h1, h2⟩ := List.getElem?_eq_some_iff.1 hj
  have := List.pairwise_iff_getElem.1 hLp j i h1 hi hji
  rw [h2, hgi, hsid] at this; exact this
 have hhi : ∀ (j : Nat) (x : Sg), L[j]? = some x -> i < j -> p.2 < x.id := fun j x hj hji => by
  obtain ⟨h1, h2⟩ := List.getElem?_eq_some_iff.1 hj
  have := List.pairwise_iff_getElem.1 hLp i j hi h1 hji
  rw [h2, hgi, hsid] at this; exact this
 have hat : ∀ x, L[i]? = some x -> x.id = p.2 := fun x hx => by rw [hgi'] at hx; cases hx; exact hsid
 have hrL : ∀ x ∈ L, 0 <= x.id /\ x.id <= 1048576 := fun x hx => hr x (hLs.subset hx)
 have hpr : 0 <= p.2 /\ p.2 <= 1048576 := by rw [<- hsid]; exact hr s hsl
 have hLl := hLs.length_le
 have hlE : (L.eraseIdx i).length = L.length - 1 := List.length_eraseIdx_of_lt hi
 have hc22 := fun W => patch22_calls p.1 p.2 W (hpid p hpm) hpr
 rw [hL] at hcp hAt ⊢
 rw [hn] at hLl
 rw [hE] at hlE
 have hfin := hE
 by_cases hlast : i + 1 = L.length
 ·have hca := fun W (hW : Kin.At W A' 14 (L.map sgE)) => apply23_last A' cap' L i p.1 p.2 W hW (by omega) hcp hrL hpr hlo hat hlast
  have hAn : ∀ W, SatW w (base w) noJ M W -> Kin.At W A' 14 ((delS ((ps.take (k + 1)).map (·.2)) l).map sgE) := fun W hW => by
   rw [<- hE]
   have h1 := hAt W hW
   intro j cs hj
   rw [List.getElem?_map] at hj
   obtain ⟨x, hx, rfl⟩ := Option.map_eq_some_iff.1 hj
   have hjl : j < i := by have := (List.getElem?_eq_some_iff.1 hx).1; rw [List.length_eraseIdx_of_lt hi] at this; omega
   rw [List.getElem?_eraseIdx_of_lt hjl] at hx
   exact h1 j (sgE x) (by rw [List.getElem?_map, hx]; rfl)
  clear hlo hat hhi hin hnd hpid hr hwf hE hLp hgi' hgi hsL hsl hB hcS
  repeat ((fail_if_success refine c_probe (id := 10) ?_); (fail_if_success refine c_probe1 (id := 10) ?_); first|refine lVa rfl rfl (by first|exact pEv rfl|exact vL0 rfl (by assumption) rfl (by rfl)|exact v_index rfl rfl rfl rfl (by omega) (by omega) (by with_reducible first|exact idx4 _ _ _|fail)|fail) ?_|refine lNi ?_|refine cRg ?_|refine cSq ?_|refine xTh ?_|refine r_alloc rfl rfl rfl (by first|exact aggL|fail) (fun _ => ?_)|refine rSt rfl rfl rfl rfl rfl rfl rfl (by repeat constructor) (by rfl) ?_|refine c_dec_t rfl (by first|omega|fail) ?_|refine cBl ?_|refine cSk ?_|fail)
  refine cSq ?_
  repeat (first|refine lVa rfl rfl (by first|exact vLd rfl (by repeat constructor) rfl (by rfl)|fail) ?_|refine cRg ?_|refine cSq ?_|fail)
  refine r_call rfl rfl rfl (fun W hW => hc22 W) ?_
  repeat ((fail_if_success refine c_probe (id := 13) ?_); (fail_if_success refine c_probe1 (id := 13) ?_); first|refine lVa rfl rfl (by first|exact pEv rfl|fail) ?_|refine lNi ?_|refine cRg ?_|refine cSq ?_|refine xTh ?_|refine c_false rfl ?_|refine cSk ?_|fail)
  refine cSq ?_
  repeat (first|refine lVa rfl rfl (by first|exact pEv rfl|exact vLd rfl (by repeat constructor) rfl (by rfl)|fail) ?_|refine cRg ?_|fail)
  refine r_call rfl rfl rfl (fun W hW => hca W (hAt W (hW.mono (List.sublist_cons_self _ _)))) ?_
  rw [show i = (delS ((ps.take (k + 1)).map (·.2)) l).length by omega]
  repeat ((fail_if_success refine c_probe (id := 16) ?_); (fail_if_success refine c_probe1 (id := 16) ?_); first|refine lVa rfl rfl (by first|exact v_add rfl rfl (by omega) (by omega)|exact pEv rfl|fail) ?_|refine lNi ?_|refine cRg ?_|refine cSq ?_|refine xTh ?_|refine c_false rfl ?_|refine cSk ?_|refine x_block ?_|fail)
  exact x_back ⟨k + 1, A', (delS ((ps.take (k + 1)).map (·.2)) l).length, M⟩ ⟨hlt, Nat.le_refl _, hAn⟩ (by simp only; omega) (by repeat (first|exact .nil|refine .cons rfl (by first|rfl|(congr 1; done)|exact congrArg _ (by omega)|(simp; done)) ?_)) (by repeat (first|exact .nil|refine .keep (by first|rfl|assumption) ?_|refine .drop ?_|exact MSub.refl _))
 ·have hca := fun W (hW : Kin.At W A' 14 (L.map sgE)) => apply23_calls A' cap' L i p.1 p.2 W hW (by omega) hcp hrL hpr hi hlo hat hhi (by omega)
  rw [hE] at hca
  clear hlo hat hhi hin hnd hpid hr hwf hE hLp hgi' hgi hsL hsl hB hcS
  repeat ((fail_if_success refine c_probe (id := 10) ?_); (fail_if_success refine c_probe1 (id := 10) ?_); first|refine lVa rfl rfl (by first|exact pEv rfl|exact vL0 rfl (by assumption) rfl (by rfl)|exact v_index rfl rfl rfl rfl (by omega) (by omega) (by with_reducible first|exact idx4 _ _ _|fail)|fail) ?_|refine lNi ?_|refine cRg ?_|refine cSq ?_|refine xTh ?_|refine r_alloc rfl rfl rfl (by first|exact aggL|fail) (fun _ => ?_)|refine rSt rfl rfl rfl rfl rfl rfl rfl (by repeat constructor) (by rfl) ?_|refine c_dec_t rfl (by first|omega|fail) ?_|refine cBl ?_|refine cSk ?_|fail)
  refine cSq ?_
  repeat (first|refine lVa rfl rfl (by first|exact vLd rfl (by repeat constructor) rfl (by rfl)|fail) ?_|refine cRg ?_|refine cSq ?_|fail)
  refine r_call rfl rfl rfl (fun W hW => hc22 W) ?_
  repeat ((fail_if_success refine c_probe (id := 13) ?_); (fail_if_success refine c_probe1 (id := 13) ?_); first|refine lVa rfl rfl (by first|exact pEv rfl|fail) ?_|refine lNi ?_|refine cRg ?_|refine cSq ?_|refine xTh ?_|refine c_false rfl ?_|refine cSk ?_|fail)
  refine cSq ?_
  repeat (first|refine lVa rfl rfl (by first|exact pEv rfl|exact vLd rfl (by repeat constructor) rfl (by rfl)|fail) ?_|refine cRg ?_|fail)
  refine r_callF (pre := []) rfl rfl rfl (List.Perm.refl _) (fun W hW _ _ => hca W (hAt W (hW.mono (List.sublist_cons_self _ _)))) ?_
  rintro ⟨⟨bn, cn, rest⟩, hcn⟩
  simp only at hcn
  simp only [List.cons_append, List.nil_append]
  rw [<- hlE]
  repeat ((fail_if_success refine c_probe (id := 16) ?_); (fail_if_success refine c_probe1 (id := 16) ?_); first|refine lVa rfl rfl (by first|exact v_add rfl rfl (by omega) (by omega)|exact pEv rfl|fail) ?_|refine lNi ?_|refine cRg ?_|refine cSq ?_|refine xTh ?_|refine c_false rfl ?_|refine cSk ?_|refine x_block ?_|fail)
  exact x_back ⟨k + 1, some ⟨bn, 0, none⟩, cn, [(bn, .cells ⟨((delS ((ps.take (k + 1)).map (·.2)) l).map sgE).flatten ++ rest⟩ 32 (0, 0))]⟩ ⟨hlt, by rw [hlE]; exact hcn, fun W hW => at_own hW List.mem_cons_self sgE_len⟩ (by simp only; omega) (by repeat (first|exact .nil|refine .cons rfl (by first|rfl|(congr 1; done)|exact congrArg _ (by omega)|(simp; done)) ?_)) (by repeat (first|exact .nil|refine .keep (by first|rfl|assumption) ?_|refine .drop ?_|exact MSub.refl _))
end R41
end Go.Proofs
