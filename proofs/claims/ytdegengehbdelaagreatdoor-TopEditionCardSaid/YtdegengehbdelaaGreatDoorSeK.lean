/- The engine: map literals; in drawn regions: closures that hand back blocks, ranges. Generic: no program is named here. -/
import Derived.Test.YtdegengehbdelaaGreatDoorRtNum
import Derived.Test.YtdegengehbdelaaGreatDoorSeI
set_option linter.unusedSectionVars false
set_option linter.unusedVariables false
set_option linter.unusedSimpArgs false
namespace Go
open Go.RowKit
namespace Kin
section
variable {P : Program} {N : Nat} {c : Cx} {Q : Exit -> Act -> World -> Prop} {env : List (Nat × Value)} {mem mem' : List (Nat × Obj)} {L l : List Oper} {tt : List (TypeId × TI)} [Wide c.F]
 {ty : TypeId} {pos : String} {af : Array Edge} {g : Option (Nat × Bool)} {dd : Option Tmp} {d : Nat}
theorem d_imIns [T : TT P tt] {t kt et b : Nat} {m kx vx : Operand} {k : Int} {v : Value} {s : List (Int × Value)} {sz bt sz' bt' : Nat} {z z' : Value} {mem' : List (Nat × Obj)}
  (hm0 : evOp env m = some (.map (some b))) (hk : evOp env kx = some (.int .i64 k)) (hv : evOp env vx = some v) (ht : look tt t = some ⟨.map kt et, sz, bt, z⟩) (hkt : look tt kt = some ⟨.int .i64, sz', bt', z'⟩)
  (hu : Upd mem b (imO s) (imO (imPut s k v)) mem') :
  OpDo P N c env mem ⟨none, .insert t m kx vx, ty, pos, af, g⟩ mem' :=
 ⟨rfl, fun a W ha hm => (d_imPut (P := P) (N := N) (c := c) (ty := ty) (pos := pos) (af := af) (g := g) hm0 hk hv ht hkt hu).2 a W ha hm⟩
end
section
variable {P : Program} {N : Nat} {c : Cx} {Q : Exit -> Act -> World -> Prop} {env : List (Nat × Value)} {mem : List (Nat × Obj)} {L l : List Oper} {tt : List (TypeId × TI)} [Wide c.F]
 {ty : TypeId} {pos : String} {af : Array Edge} {g : Option (Nat × Bool)} {dd : Option Tmp} {d : Nat} {kt : Kt} {rd : List (Nat × Nat)} {tl : List (Nat × Obj)} {fr : OM}
/-- a new block whose contents depend on what lies -/
theorem e_newM {k p : Nat} {op : Op} {V : Nat -> Value} {ob : Obj} {mem' : List (Nat × Obj)} (hw : wantB L env g = some true) (hd : Nat.blt d N = true) (hk : kdOf kt k = some (.new p)) (hp : fr[p]? = some none)
  (hm : pickO (rowS (shOf kt) rd k) 0 fr tl some = some mem') (hpl : plainOp op = true)
  (hv : ∀ a W, SatA N c.ds env a -> SatW c.w0 c.D c.J mem' W -> (execOp a.eval ⟨some d, op, ty, pos, af, g⟩).run P W = .ok (.value (V W.heap.size)) (W.alloc ob))
  (kk : ∀ b, RunE P N c L kt rd tl l (k + 1) Q ((d, V b) :: env) (fr.set p (some (b, ob)))) : RunE P N c L kt rd tl (⟨some d, op, ty, pos, af, g⟩ :: l) k Q env fr := .mk fun β a ha hr => by
 refine ⟨V (β k).b, _, .new hk (wanted_of (o := ⟨some d, op, ty, pos, af, g⟩) hw ha) hpl hp (fun W hW => ?_), (kk (β k).b).run β _ (ha.put hd _) hr⟩
 obtain ⟨m', h1, h2⟩ := pickO_eq (f := wrS (ancs .any L.toArray) (shOf kt) k) (fun p hp => rowS_ok hr hp) hm
 simp only [Option.some.injEq] at h2
 subst h2
 exact hv a W ha (hW.mono h1)
theorem n_imRange [T : TT P tt] {t kt' et b : Nat} {m : Operand} {s : List (Int × Value)} {sz bt : Nat} {z : Value}
  (hm0 : evOp env m = some (.map (some b))) (ht : look tt t = some ⟨.map kt' et, sz, bt, z⟩) (hin : (b, imO s) ∈ mem) :
  ∀ a W, SatA N c.ds env a -> SatW c.w0 c.D c.J mem W -> (execOp a.eval ⟨dd, .range t m, ty, pos, af, g⟩).run P W = .ok (.value (.pointer (some ⟨W.heap.size, 0, none⟩))) (W.alloc (itO b s.length [])) := fun a W ha hm => by
 have hb := (hm.own _ hin).2
 have hmu : P.underlying t = some (.map kt' et) := (TT.look (P := P) ht).1
 unfold imO at hb
 simp only [execOp, ha.eval hm0, Sem.run_bind, run_range_map W t kt' et b _ _ hmu hb, Result.andThen_ok]
 rfl
end
end Kin
end Go

namespace Go.Proofs
open Go.RowKit Go.Kin Go.Kin.Se Go.Kin.Cl
namespace R41
theorem st_bd : ∀ {t : Tr}, (∀ i ∈ t.lv, i < 5) -> 0 < t.st /\ t.st < 32
 | .lf i, h => by
  have := h i (List.mem_singleton.2 rfl)
  have := tz_sm i this
  show 0 < 2 ^ i /\ 2 ^ i < 32
  omega
 | .nd l r, h => by
  have h1 := st_bd (t := l) fun i hi => h i (List.mem_append_left _ hi)
  have h2 := st_bd (t := r) fun i hi => h i (List.mem_append_right _ hi)
  show 0 < l.st ||| r.st /\ l.st ||| r.st < 32
  have h3 : l.st ||| r.st < 2 ^ 5 := Nat.or_lt_two_pow h1.2 h2.2
  have h4 : l.st <= l.st ||| r.st := Nat.left_le_or
  omega
theorem below_calls (E : BC) (hE : BOK E) : ∀ t : Tr, isT E.cl t = true -> Fit E.S E.own t -> (∀ i ∈ t.lv, i < E.rows.length) -> t.sz <= 1000 -> ∀ w, BEnv E w -> Calls Tryz.prog 68 ⟨.int .i64 (t.st : Int) :: E.env⟩ w (MpQ E t w)
 | .lf i, hT, _, hi, _, w, hB => leaf_calls E hE i w hB (hi i (List.mem_singleton.2 rfl)) hT
 | .nd l r, hT, hf, hi, hz, w, hB => by
  have hT : (!singleB (Tr.st (.nd l r)) && (decide (prt E.cl (Tr.st (.nd l r)) = some (l.st, r.st)) && (isT E.cl l && isT E.cl r))) = true := hT
  simp only [Bool.and_eq_true, Bool.not_eq_true', decide_eq_true_eq] at hT
  obtain ⟨h1, h2, h3, h4⟩ := hT
  have hz : 8 + (l.sz + r.sz) <= 1000 := hz
  have hil := fun i (h : i ∈ l.lv) => hi i (List.mem_append_left _ h)
  have hir := fun i (h : i ∈ r.lv) => hi i (List.mem_append_right _ h)
  have h5 := hE.n5
  have hst := st_bd (t := .nd l r) fun i h => by have := hi i h; omega
  exact node_calls E hE l r w hB _ rfl h1 h2 hst.1 (by omega) hf.l hf.r (by omega) (by omega)
   (fun W hW => below_calls E hE l h3 hf.l hil (by omega) W hW) (fun W hW => below_calls E hE r h4 hf.r hir (by omega) W hW)
/-! ## The states -/
def addR (j : Nat) (S : List Int) (v : RV) : List Int := if v.l.getD j lost = lost ∨ v.l.getD j lost ∈ S then S else S ++ [v.l.getD j lost]
def keysR (rows : List RV) (j : Nat) : List Int := rows.foldl (addR j) [0]
theorem addR_sub {j : Nat} {S : List Int} {v : RV} : ∀ s ∈ S, s ∈ addR j S v := fun s hs => by
 unfold addR
 split
 ·exact hs
 ·exact List.mem_append_left _ hs
theorem addR_nd {j : Nat} {S : List Int} {v : RV} (h : S.Nodup) : (addR j S v).Nodup := by
 unfold addR
 split
 ·exact h
 ·rename_i hn
  exact List.nodup_append.2 ⟨h, by simp, fun a ha b hb e => hn (.inr (by rw [List.mem_singleton.1 hb] at e; exact e ▸ ha))⟩
theorem addR_len {j : Nat} {S : List Int} {v : RV} : (addR j S v).length <= S.length + 1 := by
 unfold addR
 split
 ·omega
 ·simp
theorem fold_sub {j : Nat} : ∀ (rows : List RV) (S : List Int), ∀ s ∈ S, s ∈ rows.foldl (addR j) S
 | [], _, _, h => h
 | v :: rows, S, s, h => fold_sub rows _ s (addR_sub s h)
theorem fold_nd {j : Nat} : ∀ (rows : List RV) (S : List Int), S.Nodup -> (rows.foldl (addR j) S).Nodup
 | [], _, h => h
 | v :: rows, S, h => fold_nd rows _ (addR_nd h)
theorem fold_len {j : Nat} : ∀ (rows : List RV) (S : List Int), (rows.foldl (addR j) S).length <= S.length + rows.length
 | [], _ => Nat.le_refl _
 | v :: rows, S => by
  have := fold_len (j := j) rows (addR j S v)
  have := addR_len (j := j) (S := S) (v := v)
  rw [List.foldl_cons, List.length_cons]
  omega
theorem fold_mem {j : Nat} : ∀ (rows : List RV) (S : List Int) (v : RV), v ∈ rows -> v.l.getD j lost = lost ∨ v.l.getD j lost ∈ rows.foldl (addR j) S
 | u :: rows, S, v, h => by
  rw [List.foldl_cons]
  rcases List.mem_cons.1 h with rfl | h
  ·by_cases hc : v.l.getD j lost = lost
   ·exact .inl hc
   ·refine .inr (fold_sub rows _ _ ?_)
    unfold addR
    split
    ·rename_i h
     exact h.resolve_left hc
    ·simp
  ·exact fold_mem rows _ v h
theorem fold_in {j : Nat} : ∀ (rows : List RV) (S : List Int) (s : Int), s ∈ rows.foldl (addR j) S -> s ∈ S ∨ ∃ v ∈ rows, s = v.l.getD j lost /\ s ≠ lost
 | [], _, _, h => .inl h
 | v :: rows, S, s, h => by
  rcases fold_in rows _ s h with h | ⟨u, hu, e⟩
  ·unfold addR at h
   split at h
   ·exact .inl h
   ·rename_i hn
    rcases List.mem_append.1 h with h | h
    ·exact .inl h
    ·rw [List.mem_singleton] at h
     exact .inr ⟨v, List.mem_cons_self, h, fun e => hn (.inl (h ▸ e))⟩
  ·exact .inr ⟨u, List.mem_cons_of_mem _ hu, e⟩
theorem keysR_fit {rows : List RV} {j : Nat} {t : Tr} (hi : ∀ i ∈ t.lv, i < rows.length) : Fit (keysR rows j) (ownR rows j) t :=
 ⟨List.ne_nil_of_mem (fold_sub rows [0] 0 (by simp)), fun i h => by
  have hlt := hi i h
  have := fold_mem (j := j) rows [0] rows[i] (List.getElem_mem hlt)
  have e : ownR rows j i = rows[i].l.getD j lost := by
   unfold ownR
   rw [List.getD_eq_getElem?_getD (l := rows.map RV.l), List.getElem?_map, List.getElem?_eq_getElem hlt]; rfl
  rw [e]; exact this⟩
theorem zerosL_imGet {S : List Int} {s : Int} : imGet (zerosL S) s = if s ∈ S then some (.int .i64 0) else none := by
 induction S with
 | nil => rfl
 | cons x S ih =>
  have hc : zerosL (x :: S) = (x, .int .i64 0) :: zerosL S := rfl
  rw [hc, imGet, ih]
  by_cases h : x = s
  ·simp [h]
  ·simp [h, Ne.symm h]
theorem zerosL_set {S : List Int} {s : Int} : imSet (zerosL S) s (.int .i64 0) = zerosL S := by
 induction S with
 | nil => rfl
 | cons x S ih =>
  have hc : zerosL (x :: S) = (x, .int .i64 0) :: zerosL S := rfl
  rw [hc, imSet, ih]
  split
  ·rename_i h
   have h : x = s := h
   rw [h]
  ·rfl
theorem zerosL_put {S : List Int} {j : Nat} {v : RV} (h : v.l.getD j lost ≠ lost) : imPut (zerosL S) (v.l.getD j lost) (.int .i64 0) = zerosL (addR j S v) := by
 unfold addR
 by_cases hm : v.l.getD j lost ∈ S
 ·rw [if_pos (.inr hm), imPut_old (w := .int .i64 0) (by rw [zerosL_imGet, if_pos hm]), zerosL_set]
 ·rw [if_neg (fun e => e.elim h hm), imPut_new (by rw [zerosL_imGet, if_neg hm])]
  unfold zerosL
  rw [List.map_append]; rfl
/-! ## The values of a map -/
def valL (lx : List (Int × Value)) (seen : List Nat) : List Nat := seen.filterMap fun j => (lx[j]?).map fun p => cV p.2
theorem valL_snoc {lx : List (Int × Value)} {seen : List Nat} {j : Nat} {p : Int × Value} (h : lx[j]? = some p) : valL lx (seen ++ [j]) = valL lx seen ++ [cV p.2] := by
 unfold valL
 rw [List.filterMap_append]
 simp [h]
theorem valL_mem {E : BC} {t : Tr} {lx : List (Int × Value)} (h : MpB E t lx) {seen : List Nat} (ha : ∀ j, j < lx.length -> j ∈ seen) {x : Nat} : x ∈ valL lx seen ↔ x ∈ E.S.filterMap (bel E.S E.own t) := by
 unfold valL
 rw [List.mem_filterMap, List.mem_filterMap]
 constructor
 ·rintro ⟨j, _, e⟩
  obtain ⟨p, hp, rfl⟩ := Option.map_eq_some_iff.1 e
  obtain ⟨c, h1, h2, h3⟩ := h.at' hp
  exact ⟨p.1, h2, by rw [h3, h1]; simp [iv, cV]⟩
 ·rintro ⟨q, hq, hc⟩
  have hg := h.get q
  rw [if_pos hq, hc] at hg
  obtain ⟨j, hj⟩ := imGet_some hg
  exact ⟨j, ha j (List.getElem?_eq_some_iff.1 hj).1, by rw [hj]; simp [iv, cV]⟩
theorem valL_end {E : BC} {t : Tr} {lx : List (Int × Value)} (h : MpB E t lx) {seen : List Nat} (ha : ∀ j, j < lx.length -> j ∈ seen) : mn (valL lx seen) = prc E.S E.own t := mn_mem fun _ => valL_mem h ha
theorem valL_ne {E : BC} {t : Tr} {lx : List (Int × Value)} (h : MpB E t lx) (hf : Fit E.S E.own t) {seen : List Nat} (ha : ∀ j, j < lx.length -> j ∈ seen) : valL lx seen ≠ [] := by
 obtain ⟨x, hx⟩ := List.exists_mem_of_ne_nil _ (prc_ne hf)
 exact List.ne_nil_of_mem ((valL_mem h ha).2 hx)
theorem valL_bd {E : BC} {t : Tr} {lx : List (Int × Value)} (h : MpB E t lx) (hf : Fit E.S E.own t) {seen : List Nat} : ∀ x ∈ valL lx seen, x <= t.sz := fun x hx => by
 obtain ⟨j, _, e⟩ := List.mem_filterMap.1 hx
 obtain ⟨p, hp, rfl⟩ := Option.map_eq_some_iff.1 e
 obtain ⟨c, h1, _, h3⟩ := h.at' hp
 have := bel_le hf _ _ h3
 rw [h1]
 have : cV (iv c) = c := by simp [iv, cV]
 omega
end R41
end Go.Proofs

set_option maxRecDepth 100000
set_option maxHeartbeats 400000000
namespace Go.Proofs
open Go.RowKit Go.Kin Go.Kin.Se Go.Kin.Cl
namespace R41
/-- a table of rows that lies in the world -/
structure TabIn (w : World) (A : Option Addr) (rows : List RV) : Prop where
 ar : Kin.At w A 1 (rows.map rvE)
 row : ∀ v ∈ rows, Kin.At w v.A 1 (v.l.map inE)
theorem TabIn.later {w w' : World} {A : Option Addr} {rows : List RV} (h : TabIn w A rows) (k : Below w.heap.size w w') : TabIn w' A rows := ⟨h.ar.later k, fun v hv => (h.row v hv).later k⟩
theorem nE_rows (zs : List Nat) : ((zs.map nE).flatten).length = zs.length * 1 := by
 induction zs with
 | nil => rfl
 | cons z zs ih => rw [List.map_cons, List.flatten_cons, List.length_append, ih, List.length_cons]; show 1 + _ = _; omega
theorem seen_lt {n j : Nat} {seen : List Nat} (h1 : seen.Nodup) (h2 : ∀ q ∈ seen, q < n) (hj : j < n) (hn : j ∉ seen) : ((seen ++ [j]).Nodup /\ ∀ r ∈ seen ++ [j], r < n) /\ n - (seen ++ [j]).length < n - seen.length /\ seen.length <= n := by
 have hI : (seen ++ [j]).Nodup /\ ∀ r ∈ seen ++ [j], r < n := ⟨List.nodup_append.2 ⟨h1, by simp, fun a ha b hb e => hn (by rw [List.mem_singleton.1 hb] at e; exact e ▸ ha)⟩, fun r hr => by
  rcases List.mem_append.1 hr with h | h
  ·exact h2 r h
  ·rw [List.mem_singleton.1 h]; exact hj⟩
 have hs1 : (List.range n).length = n := List.length_range
 have := hI.1.length_le_of_subset (l₂ := List.range n) (fun r hr => List.mem_range.2 (hI.2 r hr))
 rw [List.length_append, hs1, List.length_singleton] at this
 refine ⟨hI, ?_, by omega⟩
 rw [List.length_append, List.length_singleton]; omega
theorem seen_le {n : Nat} {seen : List Nat} (h1 : seen.Nodup) (h2 : ∀ q ∈ seen, q < n) : seen.length <= n := by
 have hs1 : (List.range n).length = n := List.length_range
 have := h1.length_le_of_subset (l₂ := List.range n) (fun r hr => List.mem_range.2 (h2 r hr))
 omega
theorem price44_calls (A : Option Addr) (capA : Nat) (rows : List RV) (Ac : Option Addr) (capc : Nat) (cl : List Nat) (j : Nat) (t : Tr) (w : World) (hA : TabIn w A rows) (hC : Kin.At w Ac 1 (cl.map nE)) (hg : Glob w)
  (n5 : rows.length <= 5) (hj : ∀ v ∈ rows, j < v.l.length) (j3 : j < 1000) (hlen : ∀ v ∈ rows, v.l.length <= 1000) (cll : cl.length <= 1000) (hT : isT cl t = true) (hi : ∀ i ∈ t.lv, i < rows.length) (hz : t.sz <= 1000) (hst : t.st = full rows.length) :
  Calls Tryz.prog 44 ⟨[.slice A rows.length capA, .slice Ac cl.length capc, .int .i64 j]⟩ w fun e w' => e = .returned (.int .i64 (prc (keysR rows j) (ownR rows j) t : Nat)) /\ Below w.heap.size w w' := by
 obtain ⟨n, hn⟩ : ∃ n, rows.length = n := ⟨_, rfl⟩
 rw [hn] at n5 hi hst ⊢
 have hfull : (full n : Nat) + 1 = 2 ^ n := by unfold full; have := Nat.two_pow_pos n; omega
 have hsh := shl_small n (by omega)
 refine fEn Tryz.func44 rfl Tryz.ntmps44 rfl rfl (sWn w) ?_
 repeat (first|refine l_do rfl (d_imIns (s := []) (k := 0) (v := .int .i64 0) rfl rfl rfl rfl rfl (by repeat constructor)) ?_|refine lVa rfl rfl (by first|exact pEv rfl|exact vLd rfl (by repeat constructor) rfl (by rfl)|fail) ?_|refine lNi ?_|refine cRg ?_|refine cSq ?_|refine xTh ?_|refine r_box rfl rfl rfl rfl (fun _ => ?_)|refine r_makeMap rfl rfl (fun _ => ?_)|refine r_alloc rfl rfl rfl (by first|exact aggL|fail) (fun _ => ?_)|refine rSt rfl rfl rfl rfl rfl rfl rfl (by repeat constructor) (by rfl) ?_|refine cBl ?_|fail)
 rename_i b3 b4 b5 bc b7
 refine c_loop (ι := Nat) (fun k => k <= n) (fun k => [(3, .pointer (some ⟨b3, 0, none⟩)), (4, .pointer (some ⟨b4, 0, none⟩)), (5, .pointer (some ⟨b5, 0, none⟩)), (7, .pointer (some ⟨b7, 0, none⟩)), (16, .slice A n capA), (17, .int .i64 n), (18, .int .i64 k)])
  (fun k => [(b7, .cells ⟨[.map (some bc)]⟩ 45 (0, 0)), (bc, imO (zerosL ((rows.take k).foldl (addR j) [0]))), (b5, .cells ⟨[.int .i64 j]⟩ 3 (0, 0)), (b4, .cells ⟨[.slice Ac cl.length capc]⟩ 30 (0, 0)), (b3, .cells ⟨[.slice A n capA]⟩ 26 (0, 0))]) (fun k => n - k) 0 (Nat.zero_le _) (by repeat (first|exact .nil|refine .cons rfl (by first|rfl|(congr 1; done)|exact congrArg _ (by omega)|(simp; done)) ?_)) (by repeat (first|exact .nil|refine .keep (by first|rfl|assumption) ?_|refine .drop ?_|exact MSub.refl _)) ?_
 intro k hk
 by_cases hlt : k < n
 ·obtain ⟨v, hv⟩ : ∃ v, rows[k]? = some v := ⟨_, List.getElem?_eq_getElem (by omega)⟩
  have hvm := List.mem_of_getElem? hv
  have hjl := hj v hvm
  have hln := hlen v hvm
  obtain ⟨s, hsj⟩ : ∃ s, v.l[j]? = some s := ⟨_, List.getElem?_eq_getElem hjl⟩
  have hsd : v.l.getD j lost = s := by rw [List.getD_eq_getElem?_getD, hsj]; rfl
  obtain ⟨br, or_, hAr, hcr⟩ := hA.ar k (rvE v) (by rw [List.getElem?_map, hv]; rfl)
  obtain ⟨bv, ov, hAv, hcv⟩ := hA.row v hvm j (inE s) (by rw [List.getElem?_map, hsj]; rfl)
  have xr := ext_of hcr
  have xv := ext_of hcv
  rw [Nat.mul_one] at xr xv
  rw [hAv] at xr
  subst hAr
  have htk : (rows.take (k + 1)).foldl (addR j) [0] = addR j ((rows.take k).foldl (addR j) [0]) v := by rw [List.take_add_one, hv, List.foldl_append]; rfl
  by_cases hc : s = 8589934592
  ·have hst2 : addR j ((rows.take k).foldl (addR j) [0]) v = (rows.take k).foldl (addR j) [0] := if_pos (.inl (hsd.trans hc))
   rw [hst2] at htk
   repeat (first|refine lVa rfl rfl (by first|exact v_add rfl rfl (by omega) (by omega)|exact pEv rfl|exact vLd rfl (by repeat constructor) rfl (by rfl)|exact vL0 rfl (by assumption) rfl (by rfl)|exact v_index rfl rfl rfl rfl (by omega) (by omega) (by with_reducible first|exact idx2 _ _|fail)|fail) ?_|refine lNi ?_|refine cRg ?_|refine cSq ?_|refine xTh ?_|refine c_dec_t rfl (by first|omega|fail) ?_|refine c_dec_f rfl (by first|omega|exact fun h => h rfl|fail) ?_|refine cBl ?_|refine cSk ?_|refine x_block ?_|fail)
   rw [<- htk]
   exact x_back (k + 1) (by omega) (by omega) (by repeat (first|exact .nil|refine .cons rfl (by first|rfl|(congr 1; done)|exact congrArg _ (by omega)|(simp; done)) ?_)) (by repeat (first|exact .nil|refine .keep (by first|rfl|assumption) ?_|refine .drop ?_|exact MSub.refl _))
  ·have hput := zerosL_put (S := (rows.take k).foldl (addR j) [0]) (j := j) (v := v) (by rw [hsd]; exact hc)
   rw [hsd, <- htk] at hput
   repeat (first|refine h_do1 rfl (by decide +kernel) (by decide +kernel) rfl rfl (d_imPut (k := s) (v := .int .i64 0) rfl rfl rfl rfl rfl (by repeat constructor)) ?_|refine lVa rfl rfl (by first|exact v_add rfl rfl (by omega) (by omega)|exact pEv rfl|exact vLd rfl (by repeat constructor) rfl (by rfl)|exact vL0 rfl (by assumption) rfl (by rfl)|exact v_index rfl rfl rfl rfl (by omega) (by omega) (by with_reducible first|exact idx2 _ _|fail)|fail) ?_|refine lNi ?_|refine cRg ?_|refine cSq ?_|refine xTh ?_|refine c_dec_t rfl (by first|omega|fail) ?_|refine cBl ?_|refine cSk ?_|refine x_block ?_|refine c_cut rfl (by decide +kernel) ?_|refine h_val rfl rfl (by first|exact pEv rfl|exact vLd rfl (by repeat constructor) rfl (by rfl)|exact vL0 rfl (by assumption) rfl (by rfl)|exact v_index rfl rfl rfl rfl (by omega) (by omega) (by with_reducible first|exact idx2 _ _|fail)|fail) ?_|fail)
   rw [hput]
   exact x_back (k + 1) (by omega) (by omega) (by repeat (first|exact .nil|refine .cons rfl (by first|rfl|(congr 1; done)|exact congrArg _ (by omega)|(simp; done)) ?_)) (by repeat (first|exact .nil|refine .keep (by first|rfl|assumption) ?_|refine .drop ?_|exact MSub.refl _))
 have hkn : k = n := by omega
 subst hkn
 rw [<- hn, List.take_length]
 rw [hn]
 have hSl : (keysR rows j).length <= 100 := by have := fold_len (j := j) rows [0]; unfold keysR; simp at this; omega
 have hnd : (keysR rows j).Nodup := fold_nd rows [0] (by simp)
 have hS : rows.foldl (addR j) [0] = keysR rows j := rfl
 rw [hS]
 repeat ((fail_if_success refine c_probe (id := 11) ?_); (fail_if_success refine c_probe1 (id := 11) ?_); first|refine lVa rfl rfl (by first|exact pEv rfl|fail) ?_|refine lNi ?_|refine cRg ?_|refine cSq ?_|refine xTh ?_|refine r_alloc rfl rfl rfl (by first|exact aggL|fail) (fun _ => ?_)|refine rSt rfl rfl rfl rfl rfl rfl rfl (by repeat constructor) (by rfl) ?_|refine c_dec_f rfl (by first|omega|fail) ?_|refine c_exit ?_|refine xTe ?_|refine xBs ?_|fail)
 rename_i b10
 obtain ⟨E, hE⟩ : ∃ E : BC, E = ⟨b3, b5, b7, b4, b10, bc, j, A, capA, Ac, capc, rows, cl, keysR rows j⟩ := ⟨_, rfl⟩
 have hEb : BOK E := by subst hE; exact ⟨by show rows.length <= 5; omega, hj, j3, hlen, cll, hnd, hSl⟩
 have hfit : Fit E.S E.own t := by subst hE; exact keysR_fit (by rw [hn]; exact hi)
 have hst5 := st_bd (t := t) fun i h => by have := hi i h; omega
 refine cSq ?_
 refine cSq ?_
 refine c_new 0 2 [(5, .calL [0] mpV (mpO E t)), (6, .new 1)] [(5, [0]), (6, [1])] [(6, 0)] rfl (by decide +kernel) rfl ?_
 repeat (first|refine e_val rfl rfl rfl rfl (v_shlA rfl rfl (by omega) hsh) ?_|refine e_val rfl rfl rfl rfl (by first|exact v_sub rfl rfl (by omega) (by omega)|exact pEv rfl|exact vLd rfl (by repeat constructor) rfl (by rfl)|fail) ?_|fail)
 refine e_callvL rfl rfl rfl rfl rfl rfl rfl (by decide) (fun _ => Nat.le_refl _) rfl (fun W hW => ?_) (fun π0 => ?_)
 ·have hB : BEnv E W := by
   subst hE
   refine ⟨?_, ?_, ?_, ?_, ?_, ?_, ?_, ?_, ?_, ?_⟩
   ·rw [hn]; exact hW.cellAt (b := b3) (l := [.slice A k capA]) (T := 26) (fr := (0, 0)) (by repeat constructor) 0
   ·exact hW.cellAt (b := b5) (l := [.int .i64 j]) (T := 3) (fr := (0, 0)) (by repeat constructor) 0
   ·exact hW.cellAt (b := b7) (l := [.map (some bc)]) (T := 45) (fr := (0, 0)) (by repeat constructor) 0
   ·exact hW.cellAt (b := b4) (l := [.slice Ac cl.length capc]) (T := 30) (fr := (0, 0)) (by repeat constructor) 0
   ·exact hW.cellAt (b := b10) (l := [_]) (T := 125) (fr := (0, 0)) (by repeat constructor) 0
   ·exact (hW.own (bc, _) (by repeat constructor)).2
   ·exact (hA.later hW.below).ar
   ·exact (hA.later hW.below).row
   ·exact hC.later hW.below
   ·exact hg.later hW.below
  have hcl : isT E.cl t = true := by subst hE; exact hT
  have hil : ∀ i ∈ t.lv, i < E.rows.length := by subst hE; show ∀ i ∈ t.lv, i < rows.length; rw [hn]; exact hi
  have hen : E.env = [ptrV b3, ptrV b5, ptrV b7, ptrV b4, ptrV b10] := by subst hE; rfl
  have hcall := below_calls E hEb t hcl hfit hil hz W hB
  have hsz : ((2 ^ k : Nat) : Int) - 1 = (t.st : Int) := by rw [hst]; omega
  rw [hen, <- hsz] at hcall
  refine hcall.mono fun e W' h => ?_
  obtain ⟨π, h1, h2⟩ := mpQ_L ⟨_⟩ h
  exact ⟨π, h1, fun m hm => h2 m hm⟩
 obtain ⟨l0, hl0⟩ : ∃ l0, mpL E t π0.rs = l0 := ⟨_, rfl⟩
 have hok := mpL_ok E t π0.rs
 rw [hl0] at hok
 obtain ⟨b0, hb0⟩ : ∃ b0, π0.b = b0 := ⟨_, rfl⟩
 unfold mpO mpV
 rw [hl0, hb0]
 clear hl0 hb0
 refine e_newM (V := fun b => .pointer (some ⟨b, 0, none⟩)) (ob := itO b0 l0.length []) rfl rfl rfl rfl rfl rfl ?_ (fun br => ?_)
 ·exact n_imRange (b := b0) (s := l0) rfl rfl (by repeat constructor)
 repeat (first|refine xTh ?_|refine cBl ?_|refine e_nil rfl ?_|fail)
 have hprc : prc E.S E.own t = prc (keysR rows j) (ownR rows j) t := by subst hE; rfl
 have hSE : E.S.length <= 100 := hEb.sl
 clear hE
 refine c_loop (ι := List Nat × (Nat × Nat × List Value)) (fun s => s.1.Nodup /\ (∀ j ∈ s.1, j < l0.length) /\ gOK nE 1 (valL l0 s.1) s.2.2.1 s.2.2.2)
  (fun s => [(11, gSl (valL l0 s.1) s.2.1 s.2.2.1), (40, .pointer (some ⟨br, 0, none⟩))])
  (fun s => (b0, imO l0) :: (br, itO b0 l0.length s.1) :: gM nE 3 (valL l0 s.1) s.2.1 s.2.2.2) (fun s => l0.length - s.1.length) ([], 0, 0, []) ⟨List.nodup_nil, fun q hq => (by cases hq), fun h => absurd rfl h⟩ (by repeat (first|exact .nil|refine .cons rfl (by first|rfl|(congr 1; done)|exact congrArg _ (by omega)|(simp; done)) ?_)) (by repeat (first|exact .nil|refine .keep (by first|rfl|assumption) ?_|refine .drop ?_|exact MSub.refl _)) ?_
 rintro ⟨seen2, bl, cap, rest⟩ ⟨g1, g2, g3⟩
 simp only at g1 g2 g3 ⊢
 have hll := hok.len
 have hsl := seen_le g1 g2
 have hcl : (valL l0 seen2).length <= 100 := by
  have h1 : (valL l0 seen2).length <= seen2.length := List.length_filterMap_le _ _
  omega
 repeat (first|refine cRg ?_|refine cSq ?_|fail)
 refine l_imNextG rfl rfl rfl (.own (by repeat constructor)) (fun _ => (by repeat constructor)) ?_
 rintro ⟨o, ho⟩
 cases o with
 | none =>
  have hall : ∀ j, j < l0.length -> j ∈ seen2 := ho
  have hmn := valL_end hok hall
  have hne := valL_ne hok hfit hall
  have hbd := valL_bd hok hfit (seen := seen2)
  have hlu : ∀ q, q ∈ valL l0 seen2 -> q <= 1000000 := fun q hq => by have := hbd q hq; omega
  rw [hprc] at hmn
  simp only [nxV, nxS]
  repeat (first|refine lVa rfl rfl (by first|exact pEv rfl|fail) ?_|refine lNi ?_|refine cRg ?_|refine cSq ?_|refine xTh ?_|refine c_false rfl ?_|refine c_exit ?_|refine xTe ?_|refine xBs ?_|fail)
  refine r_call (v := .int .i64 (prc (keysR rows j) (ownR rows j) t : Nat)) rfl rfl rfl (fun W hW => ?_) ?_
  ·obtain ⟨A, c, e, hA⟩ := gSl_atN (l := valL l0 seen2) (b := bl) (cap := cap) (r := rest) hW fun p hp => by
    refine .tail _ (.tail _ hp)
   rw [e, <- hmn]
   exact leastN_calls A c _ W hA hne (by omega) hlu
  repeat (first|refine lVa rfl rfl (by first|exact pEv rfl|fail) ?_|refine lNi ?_|refine xTh ?_|refine c_ret ?_|fail)
  exact x_ret rfl rfl (by repeat constructor) rfl (fun W hW => ⟨rfl, hW.below⟩)
 | some q =>
  obtain ⟨hj1, hj2⟩ : q < l0.length /\ ¬ q ∈ seen2 := ho
  obtain ⟨⟨pk, pv⟩, hpj⟩ : ∃ p, l0[q]? = some p := ⟨_, List.getElem?_eq_getElem hj1⟩
  obtain ⟨c, hpv, _, hcb⟩ := hok.at' hpj
  have hpv : pv = iv c := hpv
  subst hpv
  have hsn := valL_snoc (seen := seen2) hpj
  have e : cV (iv c) = c := by simp [iv, cV]
  simp only [e] at hsn
  obtain ⟨hI2, hmu2, _⟩ := seen_lt g1 g2 hj1 hj2
  unfold iv at hpj
  simp only [nxV, nxS]
  repeat (first|refine lVa rfl rfl (by first|exact pEv rfl|fail) ?_|refine lNi ?_|refine cRg ?_|refine cSq ?_|refine xTh ?_|refine c_true rfl ?_|refine cBl ?_|refine cSk ?_|fail)
  refine lVa rfl rfl (v_imEntryG rfl (.own (by repeat constructor)) (by repeat constructor) hpj) ?_
  repeat (first|refine lVa rfl rfl (by first|exact pEv rfl|fail) ?_|refine lNi ?_|refine cRg ?_|refine xTh ?_|refine r_buildSlice rfl rfl rfl rfl rfl rfl (by rfl) (fun _ => ?_)|fail)
  refine r_appendZ (f := nE) (e := 3) (sz := 1) (xs := valL l0 seen2) (ys := [c]) (m := 1) rfl rfl rfl rfl rfl rfl rfl (.inr ⟨_, 0, rfl, news_own (by repeat constructor)⟩) (List.perm_append_comm (l₁ := [_, _, _])) g3 nE_rows rfl rfl (by omega) (by unfold maxLen; omega) (fun b' c' r' hg' => ?_)
  rw [<- hsn] at hg' ⊢
  refine l_perm (List.perm_append_comm (l₂ := [_, _, _])) ?_
  repeat (first|refine lVa rfl rfl (by first|exact pEv rfl|fail) ?_|refine lNi ?_|refine x_block ?_|fail)
  exact x_back (seen2 ++ [q], b', c', r') ⟨hI2.1, hI2.2, hg'⟩ hmu2 (by repeat (first|exact .nil|refine .cons rfl (by first|rfl|(congr 1; done)|exact congrArg _ (by omega)|(simp; done)) ?_)) (by repeat (first|exact .nil|refine .keep (by first|rfl|assumption) ?_|refine .drop ?_|exact MSub.refl _))
end R41
end Go.Proofs
