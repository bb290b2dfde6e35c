/- Games on networks: the specification's play, walked. -/
import Derived.Test.YtcodoembnjemkaaSgQi
import Derived.Test.YtcodoembnjemkaaSgPd
set_option maxRecDepth 100000
set_option maxHeartbeats 400000000
set_option linter.unusedSectionVars false
set_option linter.unusedVariables false
set_option linter.unusedSimpArgs false
namespace Go.Proofs
open Go.RowKit Go.Kin Go.Kin.St Go.Kin.Ct Go.Kin.Sg
namespace R24
theorem play37_end (n : Nat) (A : Option Addr) (cap : Nat) (L : List Lk) (B : Option Addr) (cab : Nat) (C : List Lk) (T : Nat) (S : Option Addr) (cs : Nat) (m : Nat) (Wa : Option Addr) (cw : Nat) (mw : Nat) (K : Option Addr) (ck mk : Nat) (w : World) :
  Calls Try.prog 37 ⟨[.agg ⟨[.int .i64 n, .slice A L.length cap, .slice B C.length cab]⟩, .int .i64 T, .int .i64 ((T : Int) + 1), .slice S m cs, .slice Wa mw cw, .slice K mk ck]⟩ w fun e w' => e = .returned (.slice K mk ck) /\ Below w.heap.size w w' := by
 refine fun_enter Try.func37 rfl Try.ntmps37 rfl rfl (satW_nil w) ?_
 repeat (first|refine l_val rfl rfl (by first|exact pureEval_ok rfl|fail) ?_|refine l_nil ?_|refine c_region ?_|refine c_seq ?_|refine x_then ?_|refine r_box rfl rfl rfl rfl (fun _ => ?_)|refine c_dec_t rfl (by first|omega|fail) ?_|refine c_ret ?_|refine x_then_ret ?_|fail)
 exact x_ret rfl rfl (by repeat (first|exact .nil|(apply Res.tmp; rfl)|(apply Res.cell; rfl; exact (by repeat constructor); rfl; rfl))) rfl (fun W hW => ⟨rfl, hW.below⟩)
def p37V (vs : Array Value) (_ : Pi) : Value := match vs with | ⟨[_, _, _, _, _, x]⟩ => x | _ => .bool false
theorem owI_own {d F : List Int} {t : Tab} {G : Gm} {k : Nat} {l : List Int} (hd : ∀ x ∈ d, 0 <= x) (ht : toN d = doD t k l) (hF : F = castL (free G l)) : owI F d d.length = castL (own G t k l) := by
 rw [<- own_cast, <- ht]
 unfold owI
 rw [List.take_length]
 have : castL (toN d) = d := by
  unfold castL toN
  rw [List.map_map]
  conv => rhs; rw [<- List.map_id d]
  exact List.map_congr_left fun x hx => by have := hd x hx; simp only [Function.comp, id]; omega
 rw [this]
 refine List.filter_congr fun x _ => ?_
 rw [hF, Bool.not_not]
 by_cases h : x ∈ castL (free G l) <;> simp [h]
theorem kn_put_bd2 {l : List Int} {S : List Nat} {k : Nat} (h : ∀ q, 0 <= kn l q /\ kn l q <= (k : Int) + 1) : ∀ q, 0 <= kn (put l S (k + 1)) q /\ kn (put l S (k + 1)) q <= (k : Int) + 1 := fun q => by
 by_cases hq : q < l.length
 ·rw [put_kn hq]
  by_cases hm : q ∈ S
  ·rw [if_pos hm]; omega
  ·rw [if_neg hm]; exact h q
 ·rw [kn_over (by rw [put_len]; omega)]; omega
theorem play37_step (n : Nat) (A : Option Addr) (cap : Nat) (L : List Lk) (B : Option Addr) (cab : Nat) (C : List Lk) (T : Nat) (S : Option Addr) (cs : Nat) (rows : List DW) (Wa : Option Addr) (cw : Nat) (wt : List Int)
  (hn0 : n ≠ 0) (hn : n <= 1000) (hT : T <= 900) (hc : C.length <= 1000) (hC : ∀ x ∈ C, 0 <= x.fr /\ x.fr < n) (hrl : rows.length <= 4096) (hok : okS n T rows) (hdl : ∀ r ∈ rows, r.d.length <= 1000) (hwl : wt.length = C.length) (hwb : ∀ i x, C[i]? = some x -> x.lo <= wt.getD i 0 /\ wt.getD i 0 <= x.hi)
  (f k : Nat) (hkf : k + f = T)
  (ih : ∀ g, f = g + 1 -> ∀ (K : Option Addr) (ck : Nat) (l : List Int) (w : World), (⟨n, A, cap, L, B, cab, C⟩ : R23.Un).In w -> StrIn w S rows -> At w Wa 1 (wt.map inE) -> At w K 1 (l.map inE) -> l.length = n -> (∀ q, 0 <= kn l q /\ kn l q <= (k : Int) + 1) -> Calls Try.prog 37 ⟨[.agg ⟨[.int .i64 n, .slice A L.length cap, .slice B C.length cab]⟩, .int .i64 T, .int .i64 ((k : Int) + 1), .slice S rows.length cs, .slice Wa wt.length cw, .slice K l.length ck]⟩ w (NwQ (plF ⟨n, T, L, C⟩ wt (tabW rows) f (k + 1) l) w))
  (K : Option Addr) (ck : Nat) (l : List Int) (w : World) (hA : (⟨n, A, cap, L, B, cab, C⟩ : R23.Un).In w) (hS : StrIn w S rows) (hWa : At w Wa 1 (wt.map inE)) (hK : At w K 1 (l.map inE)) (hln : l.length = n) (hbd : ∀ q, 0 <= kn l q /\ kn l q <= k) :
   Calls Try.prog 37 ⟨[.agg ⟨[.int .i64 n, .slice A L.length cap, .slice B C.length cab]⟩, .int .i64 T, .int .i64 k, .slice S rows.length cs, .slice Wa wt.length cw, .slice K l.length ck]⟩ w (NwQ (plF ⟨n, T, L, C⟩ wt (tabW rows) (f + 1) k l) w) := by
 have hwt : ∀ (q : Nat) (mem : List (Nat × Obj)) (W : World), q < n -> SatW w (base w) noJ mem W -> Calls Try.prog 64 ⟨[.agg ⟨[.int .i64 n, .slice A L.length cap, .slice B C.length cab]⟩, .int .i64 k, .slice K l.length ck, .int .i64 q]⟩ W fun e w' => e = .returned (.tuple ⟨wtV C k (kn l) q⟩) /\ Below W.heap.size W w' := fun q mem W hq hW =>
  wait64_calls n A cap L B cab C k K ck l q W (hA.sat hW) (hK.sat hW) hln hq hn (by omega) hc hC fun q => by have := hbd q; omega
 have hin : ∀ (q : Nat) (mem : List (Nat × Obj)) (W : World), SatW w (base w) noJ mem W -> Calls Try.prog 65 ⟨[.agg ⟨[.int .i64 n, .slice A L.length cap, .slice B C.length cab]⟩, .int .i64 q]⟩ W fun e w' => e = .returned (.int .i64 (R23.intoI C q)) /\ Below W.heap.size W w' := fun q mem W hW =>
  into65_calls ⟨n, A, cap, L, B, cab, C⟩ q W (hA.sat hW) (by show C.length <= _; omega)
 refine fun_enter Try.func37 rfl Try.ntmps37 rfl rfl (satW_nil w) ?_
 repeat (first|refine l_val rfl rfl (by first|exact pureEval_ok rfl|fail) ?_|refine l_nil ?_|refine c_region ?_|refine c_seq ?_|refine x_then ?_|refine r_box rfl rfl rfl rfl (fun _ => ?_)|refine r_buildSlice rfl rfl rfl rfl rfl rfl (by rfl) (fun _ => ?_)|refine c_dec_f rfl (by first|omega|fail) ?_|refine c_block ?_|refine c_skip ?_|fail)
 rename_i b6 b13
 refine c_loop (ι := LS) (fun s => s.i <= n /\ Grow 1 (ocI C wt k l s.i).length (flI (castL (ocI C wt k l s.i))) s.c s.r) (fun s => [(1, .int .i64 T), (2, .int .i64 k), (3, .slice S rows.length cs), (4, .slice Wa wt.length cw), (5, .slice K l.length ck), (6, .pointer (some ⟨b6, 0, none⟩)), (13, .slice (some ⟨s.b, 0, none⟩) (ocI C wt k l s.i).length s.c), (14, .int .i64 s.i)])
  (fun s => [(s.b, .cells ⟨flI (castL (ocI C wt k l s.i)) ++ s.r⟩ 3 (0, 0)), (b6, .cells ⟨[.int .i64 n, .slice A L.length cap, .slice B C.length cab]⟩ 24 (0, 0))]) (fun s => n - s.i) ⟨0, b13, 0, []⟩ ⟨Nat.zero_le _, ⟨rfl, rfl, Nat.le_refl _, Nat.zero_le _⟩⟩ (by repeat (first|exact .nil|refine .cons rfl (by first|rfl|(congr 1; done)|exact congrArg _ (by omega)|(simp; done)) ?_)) (by repeat (first|exact .nil|refine .keep (by first|rfl|assumption) ?_|refine .drop ?_|exact MSub.refl _)) ?_
 rintro ⟨i, bb, cc, r⟩ ⟨hi, hgr⟩
 simp only at hi hgr ⊢
 have hfl := ocI_len (C := C) (wt := wt) (k := k) (l := l) (i := i)
 by_cases hlt : i < n
 ·have hsu := ocI_succ (C := C) (wt := wt) (k := k) (l := l) (i := i)
  repeat ((fail_if_success refine c_probe (id := 7) ?_); (fail_if_success refine c_probe1 (id := 7) ?_); first|refine l_val rfl rfl (by first|exact pureEval_ok rfl|exact v_load rfl (by repeat constructor) rfl (by rfl)|fail) ?_|refine l_nil ?_|refine c_region ?_|refine c_seq ?_|refine x_then ?_|refine c_dec_t rfl (by first|omega|fail) ?_|refine c_block ?_|refine c_skip ?_|fail)
  refine c_seq ?_
  repeat (first|refine l_val rfl rfl (by first|exact pureEval_ok rfl|exact v_load rfl (by repeat constructor) rfl (by rfl)|fail) ?_|refine c_region ?_|fail)
  refine r_call rfl rfl rfl (fun W hW => hwt i _ W hlt hW) ?_
  cases hw : wtF C k (kn l) i with
  | none =>
   have hv : wtV C k (kn l) i = [.int .i64 0, .agg ⟨[.int .i64 0, .int .i64 0, .int .i64 0, .int .i64 0]⟩, .bool false] := by unfold wtV; rw [hw]
   have hp : ocP C wt k l i = false := by unfold ocP; rw [hw]
   rw [hp, if_neg (by decide), List.append_nil] at hsu
   rw [hv]
   repeat (first|refine l_val rfl rfl (by first|exact v_add rfl rfl (by omega) (by omega)|exact pureEval_ok rfl|exact v_load rfl (by repeat constructor) rfl (by rfl)|fail) ?_|refine l_nil ?_|refine c_region ?_|refine c_seq ?_|refine x_then ?_|refine l_skip rfl rfl ?_|refine r_alloc rfl rfl rfl (by first|exact aggL|fail) (fun _ => ?_)|refine r_store rfl rfl rfl rfl rfl rfl rfl (by repeat constructor) (by rfl) ?_|refine c_false rfl ?_|refine c_skip ?_|refine x_block ?_|fail)
   exact x_back ⟨i + 1, bb, cc, r⟩ ⟨hlt, by simp only; rw [hsu]; exact hgr⟩ (by simp only; omega) (by simp only [hsu]; exact (by repeat (first|exact .nil|refine .cons rfl (by first|rfl|(congr 1; done)|exact congrArg _ (by omega)|(simp; done)) ?_))) (by simp only [hsu]; exact (by repeat (first|exact .nil|refine .keep (by first|rfl|assumption) ?_|refine .drop ?_|exact MSub.refl _)))
  | some p =>
   obtain ⟨m, x⟩ := p
   have hv : wtV C k (kn l) i = [.int .i64 m, .agg ⟨R22.lkE x⟩, .bool true] := by unfold wtV; rw [hw]
   rw [hv]
   obtain ⟨hx, hx2⟩ : lnk C i = some x /\ m = (k : Int) + 1 - kn l x.fr.toNat := by
    unfold wtF at hw
    cases hlx : lnk C i with
    | none => rw [hlx] at hw; cases hw
    | some y =>
     rw [hlx] at hw
     simp only at hw
     split at hw
     ·cases hw; exact ⟨rfl, rfl⟩
     ·cases hw
   obtain ⟨j, hj, hjx⟩ := lnk_some hx
   have hjl := (List.getElem?_eq_some_iff.1 hjx).1
   obtain ⟨e1, _⟩ := ix_of hj hjx
   obtain ⟨bW, oW, hWe, hw1⟩ := hWa j (inE (wt.getD j 0)) (by rw [List.getElem?_map, List.getD_eq_getElem?_getD, List.getElem?_eq_getElem (by omega)]; rfl)
   have eW := ext_of hw1
   rw [Nat.mul_one] at eW
   subst hWe
   repeat (first|refine l_val rfl rfl (by first|exact pureEval_ok rfl|exact v_load rfl (by repeat constructor) rfl (by rfl)|fail) ?_|refine l_nil ?_|refine c_region ?_|refine c_seq ?_|refine x_then ?_|refine r_alloc rfl rfl rfl (by first|exact aggL|fail) (fun _ => ?_)|refine r_store rfl rfl rfl rfl rfl rfl rfl (by repeat constructor) (by rfl) ?_|fail)
   refine r_call rfl rfl rfl (fun W hW => hin i _ W hW) ?_
   rw [R23.intoI_some hj]
   by_cases hm : m = wt.getD j 0
   rotate_left
   ·have hp : ocP C wt k l i = false := by unfold ocP; rw [hw]; simp only; rw [e1, decide_eq_false hm]
    rw [hp, if_neg (by decide), List.append_nil] at hsu
    repeat (first|refine l_val rfl rfl (by first|exact v_add rfl rfl (by omega) (by omega)|exact pureEval_ok rfl|exact v_load_ext0 rfl (by assumption) rfl (by rfl)|exact v_index rfl rfl rfl rfl (by omega) (by omega) (by with_reducible first|exact idx2 _ _|fail)|fail) ?_|refine l_nil ?_|refine c_region ?_|refine x_then ?_|refine c_dec_f rfl (by first|omega|fail) ?_|refine c_skip ?_|refine x_block ?_|fail)
    exact x_back ⟨i + 1, bb, cc, r⟩ ⟨hlt, by simp only; rw [hsu]; exact hgr⟩ (by simp only; omega) (by simp only [hsu]; exact (by repeat (first|exact .nil|refine .cons rfl (by first|rfl|(congr 1; done)|exact congrArg _ (by omega)|(simp; done)) ?_))) (by simp only [hsu]; exact (by repeat (first|exact .nil|refine .keep (by first|rfl|assumption) ?_|refine .drop ?_|exact MSub.refl _)))
   ·have hp : ocP C wt k l i = true := by unfold ocP; rw [hw]; simp only; rw [e1, decide_eq_true hm]
    rw [hp, if_pos rfl] at hsu
    have hfl2 : flI (castL (ocI C wt k l i)) ++ [Value.int .i64 i] = flI (castL (ocI C wt k l (i + 1))) := by
     rw [hsu, flI_eq, flI_eq]; unfold castL; rw [List.map_append, List.map_append]; rfl
    have hle2 : (ocI C wt k l i).length + 1 = (ocI C wt k l (i + 1)).length := by rw [hsu, List.length_append]; rfl
    repeat (first|refine l_val rfl rfl (by first|exact pureEval_ok rfl|exact v_load_ext0 rfl (by assumption) rfl (by rfl)|exact v_index rfl rfl rfl rfl (by omega) (by omega) (by with_reducible first|exact idx2 _ _|fail)|fail) ?_|refine l_nil ?_|refine c_region ?_|refine x_then ?_|refine r_buildSlice rfl rfl rfl rfl rfl rfl (by rfl) (fun _ => ?_)|refine c_dec_t rfl (by first|omega|fail) ?_|fail)
    refine r_append (xs := flI (castL (ocI C wt k l i))) (rest := r) (n := (ocI C wt k l i).length) (cap := cc) (ys := [.int .i64 i]) rfl rfl rfl rfl rfl rfl (news_own (by repeat constructor)) (Rem.tail (Rem.tail Rem.head)) hgr rfl rfl rfl (by omega) (by unfold maxLen; omega) (fun b' c' r' hg => ?_)
    rw [hfl2, hle2] at hg ⊢
    repeat (first|refine l_val rfl rfl (by first|exact v_add rfl rfl (by omega) (by omega)|exact pureEval_ok rfl|fail) ?_|refine l_nil ?_|refine c_region ?_|refine x_then ?_|refine x_block ?_|fail)
    exact x_back ⟨i + 1, b', c', r'⟩ ⟨hlt, hg⟩ (by simp only; omega) (by repeat (first|exact .nil|refine .cons rfl (by first|rfl|(congr 1; done)|exact congrArg _ (by omega)|(simp; done)) ?_)) (by repeat (first|exact .nil|refine .keep (by first|rfl|assumption) ?_|refine .drop ?_|exact MSub.refl _))
 have hqe : i = n := by omega
 subst hqe
 repeat (first|refine l_val rfl rfl (by first|exact pureEval_ok rfl|exact v_load rfl (by repeat constructor) rfl (by rfl)|fail) ?_|refine l_nil ?_|refine c_region ?_|refine c_seq ?_|refine x_then ?_|refine c_dec_f rfl (by first|omega|fail) ?_|refine c_exit ?_|refine x_then_exit ?_|refine x_block_same ?_|fail)
 obtain ⟨l1, hl1⟩ : ∃ l1, put l (ocI C wt k l i) ((k : Int) + 1) = l1 := ⟨_, rfl⟩
 have hl1n : l1.length = i := by rw [<- hl1, put_len]; exact hln
 refine r_call1 (ι := NwR l1) (v := fun s => .slice (some ⟨s.1.1, 0, none⟩) l1.length s.1.2.1) (bk := fun s => s.1.1) (o := fun s => .cells ⟨flI l1 ++ s.1.2.2⟩ 3 (0, 0)) rfl rfl rfl
  (fun W hW => by
   have := put66_calls K ck l _ cc (ocI C wt k l i) k W (hK.sat hW) (at_castL hW (by repeat constructor)) (by omega) (fun e => by rw [e] at hln; exact hn0 hln.symm) (fun q hq => by have := ocI_lt q hq; omega) (by omega) (by omega)
   rw [hl1] at this
   exact this.mono fun e W' h => h.r) (fun s => ?_)
 obtain ⟨⟨bp, cp, rp⟩, hgp⟩ := s
 simp only at hgp ⊢
 repeat (first|refine l_val rfl rfl (by first|exact pureEval_ok rfl|fail) ?_|refine l_nil ?_|refine c_region ?_|refine c_seq ?_|refine x_then ?_|fail)
 refine r_call rfl rfl rfl (fun W hW => choice67_calls S cs rows k (some ⟨bp, 0, none⟩) cp l1 W (hS.sat hW) (by omega) (at_flI hW (by repeat constructor)) (fun r hr => by
  obtain ⟨j, hj, e⟩ := List.mem_iff_getElem.1 hr
  rw [hl1n]; exact (hok j r (by rw [List.getElem?_eq_getElem hj, e])).l) (by omega) (by omega)) ?_
 obtain ⟨D, cd, d, bq, hrw, hDa, hdd, hdb, hdn⟩ := rwV_dec hS hok hdl k l1
 rw [hrw]
 repeat (first|refine l_val rfl rfl (by first|exact pureEval_ok rfl|exact v_load rfl (by repeat constructor) rfl (by rfl)|fail) ?_|refine l_nil ?_|refine c_region ?_|refine c_seq ?_|refine x_then ?_|fail)
 refine r_call1 (ι := NwR (frI C l1 i)) (v := fun s => .slice (some ⟨s.1.1, 0, none⟩) (frI C l1 i).length s.1.2.1) (bk := fun s => s.1.1) (o := fun s => .cells ⟨flI (frI C l1 i) ++ s.1.2.2⟩ 3 (0, 0)) rfl rfl rfl
  (fun W hW => (free68_calls i A cap L B cab C (some ⟨bp, 0, none⟩) cp l1 W (hA.sat hW) (at_flI hW (by repeat constructor)) hl1n (by omega) hc).mono fun e W' h => h.r) (fun s => ?_)
 obtain ⟨⟨bf, cf, rf⟩, hgf⟩ := s
 simp only at hgf ⊢
 repeat (first|refine l_val rfl rfl (by first|exact pureEval_ok rfl|fail) ?_|refine l_nil ?_|refine c_region ?_|refine c_seq ?_|refine x_then ?_|refine r_buildSlice rfl rfl rfl rfl rfl rfl (by rfl) (fun _ => ?_)|refine c_block ?_|fail)
 rename_i b21
 obtain ⟨F, hF⟩ : ∃ F, frI C l1 i = F := ⟨_, rfl⟩
 have hFl : F.length <= i := hF ▸ frI_len
 rw [hF] at hgf ⊢
 refine c_loop (ι := LS) (fun s => s.i <= d.length /\ Grow 1 (owI F d s.i).length (flI (owI F d s.i)) s.c s.r) (fun s => [(1, .int .i64 T), (2, .int .i64 k), (3, .slice S rows.length cs), (4, .slice Wa wt.length cw), (5, .slice (some ⟨bp, 0, none⟩) l1.length cp), (6, .pointer (some ⟨b6, 0, none⟩)), (18, .slice D d.length cd), (20, .slice (some ⟨bf, 0, none⟩) F.length cf), (21, .slice (some ⟨s.b, 0, none⟩) (owI F d s.i).length s.c), (22, .int .i64 s.i)])
  (fun s => [(s.b, .cells ⟨flI (owI F d s.i) ++ s.r⟩ 3 (0, 0)), (bf, .cells ⟨flI F ++ rf⟩ 3 (0, 0)), (bp, .cells ⟨flI l1 ++ rp⟩ 3 (0, 0)), (b6, .cells ⟨[.int .i64 i, .slice A L.length cap, .slice B C.length cab]⟩ 24 (0, 0))]) (fun s => d.length - s.i) ⟨0, b21, 0, []⟩ ⟨Nat.zero_le _, ⟨rfl, rfl, Nat.le_refl _, Nat.zero_le _⟩⟩ (by repeat (first|exact .nil|refine .cons rfl (by first|rfl|(congr 1; done)|exact congrArg _ (by omega)|(simp; done)) ?_)) (by repeat (first|exact .nil|refine .keep (by first|rfl|assumption) ?_|refine .drop ?_|exact MSub.refl _)) ?_
 clear hgr
 rintro ⟨j, bo, co, ro⟩ ⟨hj, hgo⟩
 simp only at hj hgo ⊢
 have hol := owI_len (F := F) (d := d) (i := j)
 by_cases hjt : j < d.length
 ·obtain ⟨x, hx⟩ : ∃ x, d[j]? = some x := ⟨_, List.getElem?_eq_getElem hjt⟩
  have hsu := owI_succ (F := F) hx
  obtain ⟨bD, oD, hDe, hd1⟩ := hDa j (inE x) (by simp [hx])
  have eD := ext_of hd1
  rw [Nat.mul_one] at eD
  subst hDe
  repeat ((fail_if_success refine c_probe (id := 17) ?_); (fail_if_success refine c_probe1 (id := 17) ?_); first|refine l_val rfl rfl (by first|exact pureEval_ok rfl|fail) ?_|refine l_nil ?_|refine c_region ?_|refine c_seq ?_|refine x_then ?_|refine c_dec_t rfl (by first|omega|fail) ?_|refine c_block ?_|refine c_skip ?_|fail)
  refine c_seq ?_
  repeat (first|refine l_val rfl rfl (by first|exact pureEval_ok rfl|exact v_load_ext0 rfl (by assumption) rfl (by rfl)|exact v_index rfl rfl rfl rfl (by omega) (by omega) (by with_reducible first|exact idx2 _ _|fail)|fail) ?_|refine c_region ?_|fail)
  refine r_call rfl rfl rfl (fun W hW => has69_calls (some ⟨bf, 0, none⟩) cf F x W (at_flI hW (by repeat constructor)) (by omega)) ?_
  by_cases hxF : x ∈ F
  rotate_left
  ·rw [if_neg hxF, List.append_nil] at hsu
   rw [decide_eq_false hxF]
   repeat (first|refine l_val rfl rfl (by first|exact v_add rfl rfl (by omega) (by omega)|exact pureEval_ok rfl|fail) ?_|refine l_nil ?_|refine c_region ?_|refine x_then ?_|refine c_false rfl ?_|refine c_skip ?_|refine x_block ?_|fail)
   exact x_back ⟨j + 1, bo, co, ro⟩ ⟨hjt, by simp only; rw [hsu]; exact hgo⟩ (by simp only; omega) (by simp only [hsu]; exact (by repeat (first|exact .nil|refine .cons rfl (by first|rfl|(congr 1; done)|exact congrArg _ (by omega)|(simp; done)) ?_))) (by simp only [hsu]; exact (by repeat (first|exact .nil|refine .keep (by first|rfl|assumption) ?_|refine .drop ?_|exact MSub.refl _)))
  ·rw [if_pos hxF] at hsu
   rw [decide_eq_true hxF]
   have hfl2 : flI (owI F d j) ++ [Value.int .i64 x] = flI (owI F d (j + 1)) := by rw [hsu, flI_eq, flI_eq, List.map_append]; rfl
   have hle2 : (owI F d j).length + 1 = (owI F d (j + 1)).length := by rw [hsu, List.length_append]; rfl
   repeat (first|refine l_val rfl rfl (by first|exact pureEval_ok rfl|exact v_load_ext0 rfl (by assumption) rfl (by rfl)|exact v_index rfl rfl rfl rfl (by omega) (by omega) (by with_reducible first|exact idx2 _ _|fail)|fail) ?_|refine l_nil ?_|refine c_region ?_|refine x_then ?_|refine r_buildSlice rfl rfl rfl rfl rfl rfl (by rfl) (fun _ => ?_)|refine c_true rfl ?_|fail)
   refine r_append (xs := flI (owI F d j)) (rest := ro) (n := (owI F d j).length) (cap := co) (ys := [.int .i64 x]) rfl rfl rfl rfl rfl rfl (news_own (by repeat constructor)) (Rem.tail Rem.head) hgo rfl rfl rfl (by omega) (by unfold maxLen; omega) (fun b' c' r' hg => ?_)
   rw [hfl2, hle2] at hg ⊢
   repeat (first|refine l_val rfl rfl (by first|exact v_add rfl rfl (by omega) (by omega)|exact pureEval_ok rfl|fail) ?_|refine l_nil ?_|refine c_region ?_|refine x_then ?_|refine x_block ?_|fail)
   exact x_back ⟨j + 1, b', c', r'⟩ ⟨hjt, hg⟩ (by simp only; omega) (by repeat (first|exact .nil|refine .cons rfl (by first|rfl|(congr 1; done)|exact congrArg _ (by omega)|(simp; done)) ?_)) (by repeat (first|exact .nil|refine .keep (by first|rfl|assumption) ?_|refine .drop ?_|exact MSub.refl _))
 have hje : j = d.length := by omega
 subst hje
 obtain ⟨ow, how⟩ : ∃ ow, own ⟨i, T, L, C⟩ (tabW rows) k l1 = ow := ⟨_, rfl⟩
 have howI : owI F d d.length = castL ow := by
  rw [<- how]
  exact owI_own (fun x hx => (hdb x hx).1) hdd (hF.symm.trans (frI_all (G := ⟨i, T, L, C⟩)))
 obtain ⟨l2, hl2⟩ : ∃ l2, put l1 ow ((k : Int) + 1) = l2 := ⟨_, rfl⟩
 have hl2n : l2.length = i := by rw [<- hl2, put_len]; exact hl1n
 have hl2b : ∀ q, 0 <= kn l2 q /\ kn l2 q <= (k : Int) + 1 := by rw [<- hl2, <- hl1]; exact kn_put_bd2 (kn_put_bd hbd)
 have hpl : ∀ g, plF ⟨i, T, L, C⟩ wt (tabW rows) (g + 1) k l = plF ⟨i, T, L, C⟩ wt (tabW rows) g (k + 1) l2 := fun g => by
  show plF _ wt _ g (k + 1) (plS _ wt _ k l) = _
  unfold plS
  rw [<- ocI_all (G := ⟨i, T, L, C⟩) hwb, hl1, how, hl2]
 rw [hpl]
 have howl : ow.length = (owI F d d.length).length := by rw [howI, castL_len]
 have hput : ∀ (W : World) (mem : List (Nat × Obj)), SatW w (base w) noJ mem W -> (bo, Obj.cells ⟨flI (owI F d d.length) ++ ro⟩ 3 (0, 0)) ∈ mem -> (bp, Obj.cells ⟨flI l1 ++ rp⟩ 3 (0, 0)) ∈ mem ->
   Calls Try.prog 66 ⟨[.slice (some ⟨bp, 0, none⟩) l1.length cp, .slice (some ⟨bo, 0, none⟩) (owI F d d.length).length co, .int .i64 k]⟩ W (NwQ l2 W) := fun W mem hW m1 m2 => by
  have := put66_calls (some ⟨bp, 0, none⟩) cp l1 (some ⟨bo, 0, none⟩) co ow k W (at_flI hW m2) (by rw [<- castL_rows]; have h := at_flI hW m1; rw [howI] at h; exact h) (by omega) (fun e => by rw [e] at hl1n; exact hn0 hl1n.symm) (fun q hq => by rw [hl1n]; exact own_lt (G := ⟨i, T, L, C⟩) q (by rw [how]; exact hq)) (by omega) (by omega)
  rw [hl2, howl] at this
  exact this
 clear hgo hj
 repeat ((fail_if_success refine c_probe (id := 19) ?_); (fail_if_success refine c_probe1 (id := 19) ?_); first|refine l_val rfl rfl (by first|exact pureEval_ok rfl|fail) ?_|refine l_nil ?_|refine c_region ?_|refine c_seq ?_|refine x_then ?_|refine c_dec_f rfl (by first|omega|fail) ?_|refine c_exit ?_|refine x_then_exit ?_|refine x_block_same ?_|fail)
 refine c_seq ?_
 cases f with
 | zero =>
  have hkT : k = T := by omega
  subst hkT
  refine c_new 0 1 [(9, .calA 0 1 l2.length (flI l2) 3), (10, .calL [] p37V (fun _ _ => []))] [(9, [0]), (10, [])] [(10, 0)] rfl (by decide +kernel) rfl ?_
  repeat (first|refine e_val rfl rfl rfl rfl (by first|exact v_add rfl rfl (by omega) (by omega)|exact pureEval_ok rfl|exact v_load rfl (by repeat constructor) rfl (by rfl)|fail) ?_|fail)
  refine e_callA rfl rfl rfl rfl rfl (by decide) flI_len (by unfold maxLen; omega) rfl (fun W hW => ?_) (fun b1 c1 r1 hgr => ?_)
  ·exact hput W _ hW (by repeat constructor) (by repeat constructor)
  skip
  refine e_callL rfl rfl rfl rfl rfl (by decide) (fun _ => Nat.le_refl _) rfl (fun W hW => ?_) (fun π => ?_)
  ·refine (play37_end i A cap L B cab C k S cs rows.length Wa cw wt.length (some ⟨b1, 0, none⟩) c1 l2.length W).mono ?_
   rintro e w' ⟨h1, h2⟩
   exact ⟨⟨0, [], [], []⟩, h1, fun l hl => hl.later h2⟩
  simp only [p37V]
  repeat (first|refine x_then ?_|refine c_ret ?_|refine e_val rfl rfl rfl rfl (by first|exact pureEval_ok rfl|fail) ?_|refine e_nil rfl ?_|fail)
  refine x_ret rfl rfl (by repeat (first|exact .nil|(apply Res.tmp; rfl)|(apply Res.cell; rfl; exact (by repeat constructor); rfl; rfl))) rfl (fun W hW => ⟨b1, c1, r1, rfl, hgr, hW.below, ?_⟩)
  have h := hW.own (b1, .cells ⟨flI l2 ++ r1⟩ 3 (0, 0)) (by repeat constructor)
  exact ⟨Nat.le_of_not_lt h.1, h.2⟩
 | succ g =>
  refine c_new 0 2 [(9, .calA 0 1 l2.length (flI l2) 3), (10, .calA 1 1 (plF ⟨i, T, L, C⟩ wt (tabW rows) (g + 1) (k + 1) l2).length (flI (plF ⟨i, T, L, C⟩ wt (tabW rows) (g + 1) (k + 1) l2)) 3)] [(9, [0]), (10, [1])] [(10, 0)] rfl (by decide +kernel) rfl ?_
  repeat (first|refine e_val rfl rfl rfl rfl (by first|exact v_add rfl rfl (by omega) (by omega)|exact pureEval_ok rfl|exact v_load rfl (by repeat constructor) rfl (by rfl)|fail) ?_|fail)
  refine e_callA rfl rfl rfl rfl rfl (by decide) flI_len (by unfold maxLen; omega) rfl (fun W hW => ?_) (fun b1 c1 r1 hgr => ?_)
  ·exact hput W _ hW (by repeat constructor) (by repeat constructor)
  skip
  refine e_callA rfl rfl rfl rfl rfl (by decide) flI_len (by unfold maxLen; rw [plF_len]; omega) rfl (fun W hW => ?_) (fun b2 c2 r2 hgr2 => ?_)
  ·exact ih g rfl (some ⟨b1, 0, none⟩) c1 l2 W (hA.sat hW) (hS.sat hW) (hWa.sat hW) (at_flI hW (by repeat constructor)) hl2n hl2b
  repeat (first|refine x_then ?_|refine c_ret ?_|refine e_val rfl rfl rfl rfl (by first|exact pureEval_ok rfl|fail) ?_|refine e_nil rfl ?_|fail)
  refine x_ret rfl rfl (by repeat (first|exact .nil|(apply Res.tmp; rfl)|(apply Res.cell; rfl; exact (by repeat constructor); rfl; rfl))) rfl (fun W hW => ⟨b2, c2, r2, rfl, hgr2, hW.below, ?_⟩)
  have h := hW.own (b2, .cells ⟨flI (plF ⟨i, T, L, C⟩ wt (tabW rows) (g + 1) (k + 1) l2) ++ r2⟩ 3 (0, 0)) (by repeat constructor)
  exact ⟨Nat.le_of_not_lt h.1, h.2⟩
theorem play37_calls (n : Nat) (A : Option Addr) (cap : Nat) (L : List Lk) (B : Option Addr) (cab : Nat) (C : List Lk) (T : Nat) (S : Option Addr) (cs : Nat) (rows : List DW) (Wa : Option Addr) (cw : Nat) (wt : List Int)
  (hn0 : n ≠ 0) (hn : n <= 1000) (hT : T <= 900) (hc : C.length <= 1000) (hC : ∀ x ∈ C, 0 <= x.fr /\ x.fr < n) (hrl : rows.length <= 4096) (hok : okS n T rows) (hdl : ∀ r ∈ rows, r.d.length <= 1000) (hwl : wt.length = C.length) (hwb : ∀ i x, C[i]? = some x -> x.lo <= wt.getD i 0 /\ wt.getD i 0 <= x.hi) :
  ∀ (f k : Nat) (K : Option Addr) (ck : Nat) (l : List Int) (w : World), k + f = T -> (⟨n, A, cap, L, B, cab, C⟩ : R23.Un).In w -> StrIn w S rows -> At w Wa 1 (wt.map inE) -> At w K 1 (l.map inE) -> l.length = n -> (∀ q, 0 <= kn l q /\ kn l q <= k) ->
   Calls Try.prog 37 ⟨[.agg ⟨[.int .i64 n, .slice A L.length cap, .slice B C.length cab]⟩, .int .i64 T, .int .i64 k, .slice S rows.length cs, .slice Wa wt.length cw, .slice K l.length ck]⟩ w (NwQ (plF ⟨n, T, L, C⟩ wt (tabW rows) (f + 1) k l) w) := by
 intro f
 induction f with
 | zero => exact fun k K ck l w hkf hA hS hWa hK hln hbd => play37_step n A cap L B cab C T S cs rows Wa cw wt hn0 hn hT hc hC hrl hok hdl hwl hwb 0 k hkf (fun g hg => by cases hg) K ck l w hA hS hWa hK hln hbd
 | succ f ih => exact fun k K ck l w hkf hA hS hWa hK hln hbd => play37_step n A cap L B cab C T S cs rows Wa cw wt hn0 hn hT hc hC hrl hok hdl hwl hwb (f + 1) k hkf (fun g hg K ck l w h1 h2 h3 h4 h5 h6 => by
   have := ih (k + 1) K ck l w (by omega) h1 h2 h3 h4 h5 (fun q => by have := h6 q; omega)
   rwa [Int.natCast_succ] at this) K ck l w hA hS hWa hK hln hbd
end R24
end Go.Proofs
