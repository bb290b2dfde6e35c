/- Uncertain networks: the program's tree, and its Check. -/
import Derived.Test.YtcodoembnjemkaaGreatCtT
import Derived.Test.YtcodoembnjemkaaGreatSgB
set_option maxRecDepth 100000
set_option maxHeartbeats 400000000
set_option linter.unusedSectionVars false
set_option linter.unusedVariables false
set_option linter.unusedSimpArgs false
namespace Go.Proofs
open Go.RowKit Go.Kin Go.Kin.St Go.Kin.Ct
open R22
namespace R23
theorem treeZ {z : Value} (h : Go.Kin.look tt 114 = some ⟨.struct [(109, 0), (109, 64), (112, 128)], 384, 3072, z⟩) : cellsL z = treeL (fun _ => 0) (fun _ => 0) (fun _ => 0) := by
 cases h
 rfl
theorem tree_agg {f g : Nat -> Int} {h : Nat -> Nat} : aggV true 384 (treeL f g h) 0 = some (.agg ⟨treeL f g h⟩) := RowAt.agg ⟨by omega, by simp⟩ treeL_len
theorem res_tree {env : List (Nat × Value)} {mem : List (Nat × Obj)} {s t b : Nat} {f g : Nat -> Int} {h : Nat -> Nat} {v : Value} (hs : Go.Kin.look env s = some (.pointer (some ⟨b, 0, none⟩))) (hm : (b, Obj.cells ⟨treeL f g h⟩ 114 (0, 0)) ∈ mem) (ht : Go.Kin.look env t = some v) : Res tt env mem [.cell s 114, .tmp t] [.agg ⟨treeL f g h⟩, v] :=
 Res.cell (kd := .struct [(109, 0), (109, 64), (112, 128)]) (sz := 384) hs hm rfl tree_agg (Res.tmp ht Res.nil)
theorem fI_none {C : List Lk} {k : Nat} {p : Int} (h0 : 0 <= p) (h : into (C.take k) p = none) : fI C k p.toNat = 0 := by
 unfold fI
 rw [show ((p.toNat : Nat) : Int) = p by omega, h]
theorem fI_some {C : List Lk} {k i : Nat} {p : Int} (h0 : 0 <= p) (h : into (C.take k) p = some i) : fI C k p.toNat = i + 1 := by
 unfold fI
 rw [show ((p.toNat : Nat) : Int) = p by omega, h]
/-- what grow answers -/
def GrowQ (n : Int) (C : List Lk) (w : World) (e : Ending) (w' : World) : Prop :=
 Below w.heap.size w w' /\ ((Ends n C /\ okT n.toNat C /\ e = .returned (.tuple ⟨[.agg ⟨theTree C n.toNat⟩, .bool true]⟩)) ∨ (¬ (Ends n C /\ okT n.toNat C) /\ ∃ f g h, e = .returned (.tuple ⟨[.agg ⟨treeL f g h⟩, .bool false]⟩)))
theorem grow_calls (u : Un) (N : Nat) (w : World) (hn : u.n = N) (hN : N <= 64) (hA : u.In w) (hl : u.C.length <= 256) :
  Calls Tryz.prog 93 ⟨[.agg ⟨u.v⟩]⟩ w (GrowQ u.n u.C w) := by
 have hB := hA.c
 obtain ⟨n, A, cap, L, B, cab, C⟩ := u
 simp only [Un.v] at hB hl hn ⊢
 subst hn
 refine fun_enter Tryz.func93 rfl Tryz.ntmps93 rfl rfl (satW_nil w) ?_
 repeat (first|refine r_alloc rfl rfl rfl (treeZ rfl) (fun b2 => ?_)|refine l_val rfl rfl (by first|exact pureEval_ok rfl|exact v_load rfl (by repeat constructor) rfl (by rfl)|fail) ?_|refine l_nil ?_|refine c_region ?_|refine c_seq ?_|refine x_then ?_|refine r_box rfl rfl rfl rfl (fun _ => ?_)|refine c_block ?_|fail)
 rename_i b1
 refine c_loop (ι := Nat) (fun k => k <= C.length /\ ∀ i x, i < k -> C[i]? = some x -> Cal N x /\ into C x.to = some i) (fun k => [(1, .pointer (some ⟨b1, 0, none⟩)), (2, .pointer (some ⟨b2, 0, none⟩)), (3, .bool false), (10, .slice B C.length cab), (11, .int .i64 C.length), (12, .int .i64 k)])
  (fun k => [(b2, .cells ⟨treeL (fI C k) (fun _ => 0) (fun _ => 0)⟩ 114 (0, 0)), (b1, .cells ⟨[.int .i64 N, .slice A L.length cap, .slice B C.length cab]⟩ 24 (0, 0))]) (fun k => C.length - k) 0 ⟨by omega, fun i x hi => by omega⟩ (by repeat (first|exact .nil|refine .cons rfl (by first|rfl|(congr 1; done)|exact congrArg _ (by omega)|(simp; done)) ?_)) (by rw [fI_0]; exact MSub.refl _) ?_
 rintro k ⟨hk, hF⟩
 by_cases hlt : k < C.length
 ·obtain ⟨x, hx⟩ : ∃ x, C[k]? = some x := ⟨_, List.getElem?_eq_getElem hlt⟩
  obtain ⟨b', o, rfl, hq⟩ := hB k (lkE x) (by simp [hx])
  have he := ext_of hq
  by_cases hc : Cal N x
  ·have hcc := hc
   unfold Cal at hcc
   obtain ⟨c1, c2, c3, c4, c5, c6, c7, c8⟩ := hcc
   have hto : (treeL (fI C k) (fun _ => 0) (fun _ => 0))[x.to.toNat]? = some (.int .i64 (fI C k x.to.toNat)) := treeL_f (by omega)
   cases hi : into (C.take k) x.to with
   | none =>
    have hfx := fI_none c3 hi
    repeat (first|refine l_val rfl rfl (by first|exact v_add rfl rfl (by omega) (by omega)|exact pureEval_ok rfl|exact v_load rfl (by repeat constructor) rfl (by rfl)|exact v_load_ext0 rfl (by assumption) rfl (by rfl)|exact v_index rfl rfl rfl rfl (by omega) (by omega) (by with_reducible first|exact idx4 _ _ _|exact idx5 _|fail)|exact v_indexA rfl rfl rfl rfl (by omega) (by omega) (by with_reducible first|exact idx5 _|fail)|exact v_load_at rfl (by repeat constructor) rfl rfl (by first|assumption|fail)|fail) ?_|refine l_nil ?_|refine c_region ?_|refine c_seq ?_|refine x_then ?_|refine r_alloc rfl rfl rfl (by first|exact aggL|fail) (fun _ => ?_)|refine r_store rfl rfl rfl rfl rfl rfl rfl (by repeat constructor) (by rfl) ?_|refine c_dec_t rfl (by first|omega|fail) ?_|refine c_dec_f rfl (by first|omega|fail) ?_|refine c_block ?_|refine c_skip ?_|refine l_dec_f rfl rfl rfl rfl rfl (by first|omega|fail) ?_|fail)
    refine r_store_at rfl rfl rfl rfl rfl rfl (by repeat constructor) (by rw [treeL_len]; omega) (treeL_sf (by omega)) ?_
    rw [fI_succ hx c3 hi]
    repeat (first|refine l_val rfl rfl (by first|exact v_add rfl rfl (by omega) (by omega)|exact pureEval_ok rfl|fail) ?_|refine l_nil ?_|refine c_region ?_|refine x_then ?_|refine x_block ?_|fail)
    refine x_back (k + 1) ⟨hlt, fun i y hi2 hy => ?_⟩ (by omega) (by repeat (first|exact .nil|refine .cons rfl (by first|rfl|(congr 1; done)|exact congrArg _ (by omega)|(simp; done)) ?_)) (by repeat (first|exact .nil|refine .keep (by first|rfl|assumption) ?_|refine .drop ?_|exact MSub.refl _))
    by_cases e : i = k
    ·subst e
     rw [hx] at hy
     cases hy
     exact ⟨hc, (into_first hx).2 hi⟩
    ·exact hF i y (by omega) hy
   | some i =>
    have hfx := fI_some c3 hi
    have hno : ¬ Ends N C := fun h => by have := (into_first hx).1 (h k x hx).2; rw [hi] at this; cases this
    repeat (first|refine l_val rfl rfl (v_loadW rfl (by repeat constructor) rfl rfl treeL_len) ?_|refine r_store (vs := treeL _ _ _) rfl rfl rfl rfl rfl treeL_beq treeL_one (by repeat constructor) (putK_all (treeL_len.trans treeL_len.symm)) ?_|refine l_val rfl rfl (by first|exact pureEval_ok rfl|exact v_load rfl (by repeat constructor) rfl (by rfl)|exact v_load_ext0 rfl (by assumption) rfl (by rfl)|exact v_index rfl rfl rfl rfl (by omega) (by omega) (by with_reducible first|exact idx4 _ _ _|exact idx5 _|fail)|exact v_indexA rfl rfl rfl rfl (by omega) (by omega) (by with_reducible first|exact idx5 _|fail)|exact v_load_at rfl (by repeat constructor) rfl rfl (by first|assumption|fail)|fail) ?_|refine l_nil ?_|refine c_region ?_|refine c_seq ?_|refine x_then ?_|refine r_alloc rfl rfl rfl (by first|exact aggL|fail) (fun _ => ?_)|refine r_store rfl rfl rfl rfl rfl rfl rfl (by repeat constructor) (by rfl) ?_|refine c_dec_t rfl (by first|omega|fail) ?_|refine c_block ?_|refine c_skip ?_|refine c_ret ?_|refine x_then_ret ?_|refine x_block_ret ?_|refine l_dec_f rfl rfl rfl rfl rfl (by first|omega|fail) ?_|fail)
    exact x_ret rfl rfl (res_tree rfl (by repeat constructor) rfl) rfl (fun W hW => ⟨hW.below, .inr ⟨fun g => hno g.1, _, _, _, rfl⟩⟩)
  ·have hno : ¬ Ends N C := fun h => hc (h k x hx).1
   repeat' (first|refine l_val rfl rfl (v_loadW rfl (by repeat constructor) rfl rfl treeL_len) ?_|refine r_store (vs := treeL _ _ _) rfl rfl rfl rfl rfl treeL_beq treeL_one (by repeat constructor) (putK_all (treeL_len.trans treeL_len.symm)) ?_|refine l_val rfl rfl (by first|exact pureEval_ok rfl|exact v_load rfl (by repeat constructor) rfl (by rfl)|exact v_load_ext0 rfl (by assumption) rfl (by rfl)|exact v_index rfl rfl rfl rfl (by omega) (by omega) (by with_reducible first|exact idx4 _ _ _|fail)|exact v_indexA rfl rfl rfl rfl (by omega) (by omega) (by with_reducible first|exact idx5 _|fail)|fail) ?_|refine l_nil ?_|refine c_region ?_|refine c_seq ?_|refine x_then ?_|refine l_skip rfl rfl ?_|refine r_alloc rfl rfl rfl (by first|exact aggL|fail) (fun _ => ?_)|refine r_store rfl rfl rfl rfl rfl rfl rfl (by repeat constructor) (by rfl) ?_|refine c_true rfl ?_|refine c_dec_t rfl (by first|omega|fail) ?_|refine c_block ?_|refine c_skip ?_|refine c_ret ?_|refine x_then_ret ?_|refine x_block_ret ?_|refine l_dec rfl rfl rfl rfl rfl (fun _ => ?_) (fun _ => ?_)|fail)
   all_goals first
    | exact x_ret rfl rfl (res_tree rfl (by repeat constructor) rfl) rfl (fun W hW => ⟨hW.below, .inr ⟨fun g => hno g.1, _, _, _, rfl⟩⟩)
    | exact absurd (show Cal N x by unfold Cal; omega) hc
 have hke : k = C.length := by omega
 subst hke
 have hyes : Ends N C := fun i x hx => hF i x (List.getElem?_eq_some_iff.1 hx).1 hx
 have hcal : ∀ x ∈ C, Cal N x := fun x hx => by
  obtain ⟨i, hi⟩ := List.getElem?_of_mem hx
  exact (hyes i x hi).1
 clear hlt hF
 repeat (first|refine l_val rfl rfl (by first|exact pureEval_ok rfl|exact v_load rfl (by repeat constructor) rfl (by rfl)|fail) ?_|refine l_nil ?_|refine c_region ?_|refine c_seq ?_|refine x_then ?_|refine c_dec_f rfl (by first|omega|exact fun h => h rfl|fail) ?_|refine c_block ?_|refine c_exit ?_|refine x_then_exit ?_|refine x_block_same ?_|fail)
 refine c_loop (ι := Nat) (fun p => p <= N /\ ∀ q : Nat, q < p -> into C (climb C N q).2 = none) (fun p => [(1, .pointer (some ⟨b1, 0, none⟩)), (2, .pointer (some ⟨b2, 0, none⟩)), (3, .bool false), (80, .int .i64 N), (81, .int .i64 p)])
  (fun p => [(b2, .cells ⟨treeL (fI C C.length) (gT C N p) (hT C N p)⟩ 114 (0, 0)), (b1, .cells ⟨[.int .i64 N, .slice A L.length cap, .slice B C.length cab]⟩ 24 (0, 0))]) (fun p => N - p) 0 ⟨Nat.zero_le _, fun q hq => by omega⟩ (by repeat (first|exact .nil|refine .cons rfl (by first|rfl|(congr 1; done)|exact congrArg _ (by omega)|(simp; done)) ?_)) (by rw [gT_0, hT_0]; exact MSub.refl _) ?_
 rintro p ⟨hp, hE⟩
 by_cases hlt : p < N
 rotate_left
 ·have hpe : p = N := by omega
  subst hpe
  repeat (first|refine l_val rfl rfl (v_loadW rfl (by repeat constructor) rfl rfl treeL_len) ?_|refine r_store (vs := treeL _ _ _) rfl rfl rfl rfl rfl treeL_beq treeL_one (by repeat constructor) (putK_all (treeL_len.trans treeL_len.symm)) ?_|refine l_val rfl rfl (by first|exact pureEval_ok rfl|fail) ?_|refine l_nil ?_|refine c_region ?_|refine c_seq ?_|refine x_then ?_|refine c_dec_f rfl (by first|omega|fail) ?_|refine c_ret ?_|refine c_exit ?_|refine x_then_exit ?_|refine x_block_same ?_|fail)
  exact x_ret rfl rfl (res_tree rfl (by repeat constructor) rfl) rfl (fun W hW => ⟨hW.below, .inl ⟨hyes, fun q hq => hE q (by rw [Int.toNat_natCast] at hq; exact hq), by rw [Int.toNat_natCast]; rfl⟩⟩)
 rw [<- hT2_0]
 repeat (first|refine l_val rfl rfl (by first|exact pureEval_ok rfl|exact v_load rfl (by repeat constructor) rfl (by rfl)|fail) ?_|refine l_nil ?_|refine c_region ?_|refine c_seq ?_|refine x_then ?_|refine c_dec_t rfl (by first|omega|fail) ?_|refine c_block ?_|refine c_skip ?_|fail)
 refine c_loop (ι := Nat) (fun j => j <= N /\ (climb C j p).1.length = j) (fun j => [(1, .pointer (some ⟨b1, 0, none⟩)), (2, .pointer (some ⟨b2, 0, none⟩)), (3, .bool false), (6, .int .i64 p), (7, .int .i64 (climb C j p).2), (80, .int .i64 N), (81, .int .i64 p), (86, .int .i64 N), (87, .int .i64 j)])
  (fun j => [(b2, .cells ⟨treeL (fI C C.length) (gT C N p) (hT2 C N p j)⟩ 114 (0, 0)), (b1, .cells ⟨[.int .i64 N, .slice A L.length cap, .slice B C.length cab]⟩ 24 (0, 0))]) (fun j => N - j) 0 ⟨Nat.zero_le _, rfl⟩ (by repeat (first|exact .nil|refine .cons rfl (by first|rfl|(congr 1; done)|exact congrArg _ (by omega)|(simp; done)) ?_)) (MSub.refl _) ?_
 rintro j ⟨hj, hcl⟩
 obtain ⟨a0, a1⟩ := climb_in hcal j p (by omega) (by omega)
 obtain ⟨at1, hat⟩ : ∃ a, (climb C j p).2 = a := ⟨_, rfl⟩
 rw [hat] at a0 a1 ⊢
 have hto : (treeL (fI C C.length) (gT C N p) (hT2 C N p j))[at1.toNat]? = some (.int .i64 (fI C C.length at1.toNat)) := treeL_f (by omega)
 cases hi : into C at1 with
 | none =>
  have hfx : fI C C.length at1.toNat = 0 := fI_none a0 (by rw [List.take_length]; exact hi)
  have hst := climb_stop (C := C) (f := j) (p := p) (by rw [hat]; exact hi) (N - j)
  rw [show j + (N - j) = N by omega] at hst
  have hend : into C (climb C N p).2 = none := by rw [hst, hat]; exact hi
  have hro : root C N p = at1 := by unfold root; rw [hst, hat]
  by_cases hjN : j < N
  ·repeat (first|refine l_val rfl rfl (by first|exact v_sub rfl rfl (by omega) (by omega)|exact pureEval_ok rfl|exact v_indexA rfl rfl rfl rfl (by omega) (by omega) (by with_reducible first|exact idx2 _ _|exact idx5 _|fail)|exact v_load_at rfl (by repeat constructor) rfl rfl (by first|assumption|fail)|fail) ?_|refine l_nil ?_|refine c_region ?_|refine c_seq ?_|refine x_then ?_|refine c_dec_t rfl (by first|omega|fail) ?_|refine c_dec_f rfl (by first|omega|exact fun h => h rfl|fail) ?_|refine c_block ?_|refine c_skip ?_|refine c_exit ?_|refine x_then_exit ?_|refine x_block_same ?_|refine x_block_other rfl ?_|fail)
   refine r_store_at rfl rfl rfl rfl rfl rfl (by repeat constructor) (by rw [treeL_len]; omega) (treeL_sg (by omega)) ?_
   rw [<- hro, gT_succ, hT2_end hst.symm]
   repeat (first|refine l_val rfl rfl (by first|exact v_add rfl rfl (by omega) (by omega)|exact pureEval_ok rfl|fail) ?_|refine l_nil ?_|refine c_region ?_|refine x_then ?_|refine x_block ?_|fail)
   refine x_back (p + 1) ⟨hlt, fun q hq => ?_⟩ (by omega) (by repeat (first|exact .nil|refine .cons rfl (by first|rfl|(congr 1; done)|exact congrArg _ (by omega)|(simp; done)) ?_)) (by repeat (first|exact .nil|refine .keep (by first|rfl|assumption) ?_|refine .drop ?_|exact MSub.refl _))
   by_cases e : q = p
   ·rw [e]; exact hend
   ·exact hE q (by omega)
  ·repeat (first|refine l_val rfl rfl (by first|exact pureEval_ok rfl|exact v_indexA rfl rfl rfl rfl (by omega) (by omega) (by with_reducible first|exact idx2 _ _|exact idx5 _|fail)|exact v_load_at rfl (by repeat constructor) rfl rfl (by first|assumption|fail)|fail) ?_|refine l_nil ?_|refine c_region ?_|refine c_seq ?_|refine x_then ?_|refine c_dec_f rfl (by first|omega|fail) ?_|refine c_skip ?_|refine c_exit ?_|refine x_then_exit ?_|refine x_block_same ?_|fail)
   refine r_store_at rfl rfl rfl rfl rfl rfl (by repeat constructor) (by rw [treeL_len]; omega) (treeL_sg (by omega)) ?_
   rw [<- hro, gT_succ, hT2_end hst.symm]
   repeat (first|refine l_val rfl rfl (by first|exact v_add rfl rfl (by omega) (by omega)|exact pureEval_ok rfl|fail) ?_|refine l_nil ?_|refine c_region ?_|refine x_then ?_|refine x_block ?_|fail)
   refine x_back (p + 1) ⟨hlt, fun q hq => ?_⟩ (by omega) (by repeat (first|exact .nil|refine .cons rfl (by first|rfl|(congr 1; done)|exact congrArg _ (by omega)|(simp; done)) ?_)) (by repeat (first|exact .nil|refine .keep (by first|rfl|assumption) ?_|refine .drop ?_|exact MSub.refl _))
   by_cases e : q = p
   ·rw [e]; exact hend
   ·exact hE q (by omega)
 | some i =>
  have hfx : fI C C.length at1.toNat = i + 1 := fI_some a0 (by rw [List.take_length]; exact hi)
  have hi2 : into C (climb C j p).2 = some i := by rw [hat]; exact hi
  have hci := into_lt hi
  by_cases hjN : j < N
  ·repeat ((fail_if_success refine c_probe (id := 15) ?_); (fail_if_success refine c_probe1 (id := 15) ?_); first|refine l_val rfl rfl (by first|exact v_sub rfl rfl (by omega) (by omega)|exact pureEval_ok rfl|exact v_indexA rfl rfl rfl rfl (by omega) (by omega) (by with_reducible first|exact idx5 _|fail)|exact v_load_at rfl (by repeat constructor) rfl rfl (by first|assumption|fail)|fail) ?_|refine l_nil ?_|refine c_region ?_|refine c_seq ?_|refine x_then ?_|refine c_dec_t rfl (by first|omega|fail) ?_|refine c_block ?_|refine c_skip ?_|fail)
   rw [show fI C C.length at1.toNat - 1 = (i : Int) by omega]
   obtain ⟨x, hx, -⟩ := into_some hi
   obtain ⟨b', o, rfl, hq⟩ := hB i (lkE x) (by simp [hx])
   have he := ext_of hq
   have hf : frm C i = x.fr := by unfold frm; rw [hx]
   have hsn := climb_snoc hcl hi2
   have hb1 : hT2 C N p j (p * 4 + i / 64) < 18446744073709551616 := hT2_lt
   have hw : (treeL (fI C C.length) (gT C N p) (hT2 C N p j))[128 + p * 4 + i / 64]? = some (.int .u64 (hT2 C N p j (p * 4 + i / 64) : Nat)) := treeL_h (by omega) (by omega)
   repeat (first|refine l_val rfl rfl (by first|exact pureEval_ok rfl|fail) ?_|refine l_nil ?_|refine c_region ?_|refine c_seq ?_|refine x_then ?_|refine c_false rfl ?_|refine c_skip ?_|fail)
   refine c_gen [(14,0)] [(14,0,128+p*4+i/64,1)] [(6,0)] rfl (by decide +kernel) (by repeat' (first|exact trivial|apply And.intro|exact Or.inl (Nat.ne_of_beq_eq_false rfl)|(right; simp only; omega))) ?_; repeat (first|refine g_val rfl rfl rfl (v_quoN (n := 64) rfl rfl (by decide) (by omega)) ?_|refine g_val rfl rfl rfl (v_remN (n := 64) rfl rfl (by decide)) ?_|refine g_val rfl rfl rfl (v_load_at rfl (by repeat constructor) rfl rfl hw) ?_|refine g_val rfl rfl rfl (v_uor rfl rfl hb1 (Nat.mod_lt _ (by decide))) ?_|refine g_val rfl rfl rfl (by first|exact v_ushl rfl rfl (by omega)|exact pureEval_ok rfl|exact v_indexA rfl rfl rfl rfl (by omega) (by omega) (by with_reducible first|exact idx2 _ _|exact idx4 _ _ _|fail)|fail) ?_|fail)
   refine g_store rfl rfl rfl rfl rfl rfl rfl rfl rfl rfl rfl (by rw [treeL_len]; omega) (splice_one (by rw [treeL_len]; omega) (treeL_sh (by omega) (by omega))) rfl ?_
   have hpow : 1 * 2 ^ (i % 64) % 18446744073709551616 = 2 ^ (i % 64) := by
    rw [Nat.one_mul]
    exact Nat.mod_eq_of_lt (show 2 ^ (i % 64) < 2 ^ 64 from Nat.pow_lt_pow_right (by decide) (Nat.mod_lt _ (by decide)))
   rw [hpow, hT2_succ hcl hi2 (by omega)]
   repeat (first|refine l_val rfl rfl (by first|exact v_add rfl rfl (by omega) (by omega)|exact pureEval_ok rfl|exact v_load rfl (by repeat constructor) rfl (by rfl)|exact v_load_ext0 rfl (by assumption) rfl (by rfl)|exact v_index rfl rfl rfl rfl (by omega) (by omega) (by with_reducible first|exact idx4 _ _ _|fail)|fail) ?_|refine l_nil ?_|refine c_region ?_|refine x_then ?_|refine x_block ?_|refine g_nil ?_|fail)
   refine x_back (j + 1) ⟨hjN, by rw [hsn, List.length_append, hcl]; rfl⟩ (by omega) ?_ (by repeat (first|exact .nil|refine .keep (by first|rfl|assumption) ?_|refine .drop ?_|exact MSub.refl _))
   rw [hsn, hf]
   exact (by repeat (first|exact .nil|refine .cons rfl (by first|rfl|(congr 1; done)|exact congrArg _ (by omega)|(simp; done)) ?_))
  ·have hje : j = N := by omega
   subst hje
   have hno : ¬ okT j C := fun h => by have := h p hlt; rw [hi2] at this; cases this
   repeat (first|refine l_val rfl rfl (v_loadW rfl (by repeat constructor) rfl rfl treeL_len) ?_|refine r_store (vs := treeL _ _ _) rfl rfl rfl rfl rfl treeL_beq treeL_one (by repeat constructor) (putK_all (treeL_len.trans treeL_len.symm)) ?_|refine l_val rfl rfl (by first|exact pureEval_ok rfl|exact v_indexA rfl rfl rfl rfl (by omega) (by omega) (by with_reducible first|exact idx5 _|fail)|exact v_load_at rfl (by repeat constructor) rfl rfl (by first|assumption|fail)|fail) ?_|refine l_nil ?_|refine c_region ?_|refine c_seq ?_|refine x_then ?_|refine c_dec_t rfl (by first|omega|fail) ?_|refine c_dec_f rfl (by first|omega|fail) ?_|refine c_ret ?_|refine c_exit ?_|refine x_then_ret ?_|refine x_then_exit ?_|refine x_block_ret ?_|refine x_block_same ?_|fail)
   exact x_ret rfl rfl (res_tree rfl (by repeat constructor) rfl) rfl (fun W hW => ⟨hW.below, .inr ⟨fun g => hno (by have := g.2; rw [Int.toNat_natCast] at this; exact this), _, _, _, rfl⟩⟩)
end R23
end Go.Proofs

set_option maxRecDepth 100000
set_option maxHeartbeats 400000000
namespace Go.Proofs
open Go.RowKit Go.Kin Go.Kin.St Go.Kin.Ct
open R22
namespace R23
/-- what check answers -/
def ChkQ (n : Int) (L C : List Lk) (w : World) (e : Ending) (w' : World) : Prop :=
 Below w.heap.size w w' /\ ((chkU n L C = 0 /\ e = .returned (.tuple ⟨[.agg ⟨theTree C n.toNat⟩, .int .i64 0]⟩)) ∨ (chkU n L C ≠ 0 /\ ∃ f g h, e = .returned (.tuple ⟨[.agg ⟨treeL f g h⟩, .int .i64 (chkU n L C)]⟩)))
theorem check_calls' (u : Un) (w : World) (hA : u.In w) (hl : u.L.length <= 1000) :
  Calls Tryz.prog 74 ⟨[.agg ⟨u.v⟩]⟩ w (ChkQ u.n u.L u.C w) := by
 have hck : ∀ (mem : List (Nat × Obj)) (W : World), SatW w (base w) noJ mem W -> Calls Tryz.prog 82 ⟨[.agg ⟨netCells u.n u.A u.L.length u.cap⟩]⟩ W fun e w' => e = .returned (.int .i64 (chk u.n u.L)) /\ Below W.heap.size W w' := fun mem W hW => check_calls u.n u.A u.cap u.L W hl (hA.l.sat hW)
 have hgr : ∀ (mem : List (Nat × Obj)) (W : World) (N : Nat), u.n = N -> N <= 64 -> u.C.length <= 256 -> SatW w (base w) noJ mem W -> Calls Tryz.prog 93 ⟨[.agg ⟨u.v⟩]⟩ W (GrowQ u.n u.C W) := fun mem W N h1 h2 h3 hW => grow_calls u N W h1 h2 (hA.sat hW) h3
 obtain ⟨n, A, cap, L, B, cab, C⟩ := u
 simp only [Un.v] at hl hck hgr ⊢
 refine fun_enter Tryz.func74 rfl Tryz.ntmps74 rfl rfl (satW_nil w) ?_
 repeat (first|refine r_alloc rfl rfl rfl (treeZ rfl) (fun b2 => ?_)|refine l_val rfl rfl (by first|exact pureEval_ok rfl|exact v_load rfl (by repeat constructor) rfl (by rfl)|exact v_build rfl rfl (by rfl)|fail) ?_|refine l_nil ?_|refine c_region ?_|refine c_seq ?_|refine x_then ?_|refine r_box rfl rfl rfl rfl (fun _ => ?_)|fail)
 refine r_call rfl rfl rfl (fun W hW => hck _ W hW) ?_
 by_cases h1 : chk n L = 0
 rotate_left
 ·have hc := chkU_a (C := C) h1
  have hc0 : chkU n L C ≠ 0 := by rw [hc]; exact h1
  repeat (first|refine l_val rfl rfl (v_loadW rfl (by repeat constructor) rfl rfl treeL_len) ?_|refine r_store (vs := treeL _ _ _) rfl rfl rfl rfl rfl treeL_beq treeL_one (by repeat constructor) (putK_all (treeL_len.trans treeL_len.symm)) ?_|refine l_val rfl rfl (by first|exact pureEval_ok rfl|fail) ?_|refine l_nil ?_|refine c_region ?_|refine c_seq ?_|refine x_then ?_|refine c_dec_t rfl (by first|omega|fail) ?_|refine c_ret ?_|refine x_then_ret ?_|fail)
  exact x_ret rfl rfl (res_tree rfl (by repeat constructor) rfl) rfl (fun W hW => ⟨hW.below, .inr ⟨hc0, _, _, _, by rw [hc]⟩⟩)
 rw [h1]
 obtain ⟨n1, n2, l1, hF⟩ := chk_ok h1
 obtain ⟨N, rfl⟩ : ∃ N : Nat, n = N := ⟨n.toNat, by omega⟩
 by_cases h2 : 256 < C.length
 ·have hc := chkU_2 (C := C) h1 h2
  have hc0 : chkU N L C ≠ 0 := by rw [hc]; decide
  repeat (first|refine l_val rfl rfl (v_loadW rfl (by repeat constructor) rfl rfl treeL_len) ?_|refine r_store (vs := treeL _ _ _) rfl rfl rfl rfl rfl treeL_beq treeL_one (by repeat constructor) (putK_all (treeL_len.trans treeL_len.symm)) ?_|refine l_val rfl rfl (by first|exact pureEval_ok rfl|exact v_load rfl (by repeat constructor) rfl (by rfl)|fail) ?_|refine l_nil ?_|refine c_region ?_|refine c_seq ?_|refine x_then ?_|refine c_false rfl ?_|refine c_dec_t rfl (by first|omega|fail) ?_|refine c_skip ?_|refine c_ret ?_|refine x_then_ret ?_|fail)
  exact x_ret rfl rfl (res_tree rfl (by repeat constructor) rfl) rfl (fun W hW => ⟨hW.below, .inr ⟨hc0, _, _, _, by rw [hc]⟩⟩)
 by_cases h3 : Ends N C /\ okT ((N : Int).toNat) C
 ·have hc := chkU_0 (L := L) h1 h2 h3
  repeat (first|refine l_val rfl rfl (by first|exact pureEval_ok rfl|exact v_load rfl (by repeat constructor) rfl (by rfl)|fail) ?_|refine l_nil ?_|refine c_region ?_|refine c_seq ?_|refine x_then ?_|refine c_false rfl ?_|refine c_dec_f rfl (by first|omega|fail) ?_|refine c_skip ?_|fail)
  refine r_call (v := .tuple ⟨[.agg ⟨theTree C N⟩, .bool true]⟩) rfl rfl rfl (fun W hW => (hgr _ W N rfl (by omega) (by omega) hW).mono fun e W' ⟨g1, g2⟩ => ?_) ?_
  ·rcases g2 with ⟨_, _, g2⟩ | ⟨g2, _⟩
   ·rw [Int.toNat_natCast] at g2
    exact ⟨g2, g1⟩
   ·exact absurd h3 g2
  unfold theTree
  repeat (first|refine l_val rfl rfl (v_loadW rfl (by repeat constructor) rfl rfl treeL_len) ?_|refine r_store (vs := treeL _ _ _) rfl rfl rfl rfl rfl treeL_beq treeL_one (by repeat constructor) (putK_all (treeL_len.trans treeL_len.symm)) ?_|refine l_val rfl rfl (by first|exact pureEval_ok rfl|fail) ?_|refine l_nil ?_|refine c_region ?_|refine c_seq ?_|refine x_then ?_|refine c_false rfl ?_|refine c_skip ?_|refine c_ret ?_|fail)
  exact x_ret rfl rfl (res_tree rfl (by repeat constructor) rfl) rfl (fun W hW => ⟨hW.below, .inl ⟨hc, by rw [Int.toNat_natCast]; rfl⟩⟩)
 ·have hc := chkU_230 (L := L) h1 h2 h3
  have hc0 : chkU N L C ≠ 0 := by rw [hc]; decide
  repeat (first|refine l_val rfl rfl (by first|exact pureEval_ok rfl|exact v_load rfl (by repeat constructor) rfl (by rfl)|fail) ?_|refine l_nil ?_|refine c_region ?_|refine c_seq ?_|refine x_then ?_|refine c_false rfl ?_|refine c_dec_f rfl (by first|omega|fail) ?_|refine c_skip ?_|fail)
  refine r_callI (ι := (Nat -> Int) × (Nat -> Int) × (Nat -> Nat)) (v := fun i => .tuple ⟨[.agg ⟨treeL i.1 i.2.1 i.2.2⟩, .bool false]⟩) rfl rfl rfl (fun W hW => (hgr _ W N rfl (by omega) (by omega) hW).mono fun e W' ⟨g1, g2⟩ => ?_) ?_
  ·rcases g2 with ⟨g2, g3, _⟩ | ⟨_, f, g, h, g2⟩
   ·exact absurd ⟨g2, g3⟩ h3
   ·exact ⟨(f, g, h), g2, g1⟩
  rintro ⟨f, g, h⟩
  simp only
  repeat (first|refine l_val rfl rfl (v_loadW rfl (by repeat constructor) rfl rfl treeL_len) ?_|refine r_store (vs := treeL _ _ _) rfl rfl rfl rfl rfl treeL_beq treeL_one (by repeat constructor) (putK_all (treeL_len.trans treeL_len.symm)) ?_|refine l_val rfl rfl (by first|exact pureEval_ok rfl|fail) ?_|refine l_nil ?_|refine c_region ?_|refine c_seq ?_|refine x_then ?_|refine c_true rfl ?_|refine c_ret ?_|refine x_then_ret ?_|fail)
  exact x_ret rfl rfl (res_tree rfl (by repeat constructor) rfl) rfl (fun W hW => ⟨hW.below, .inr ⟨hc0, _, _, _, by rw [hc]⟩⟩)
theorem Check_calls (u : Un) (w : World) (hA : u.In w) (hl : u.L.length <= 1000) :
  Calls Tryz.prog 46 ⟨[.agg ⟨u.v⟩]⟩ w fun e w' => e = .returned (.int .i64 (chkU u.n u.L u.C)) /\ Below w.heap.size w w' := by
 have hck : ∀ (mem : List (Nat × Obj)) (W : World), SatW w (base w) noJ mem W -> Calls Tryz.prog 74 ⟨[.agg ⟨u.v⟩]⟩ W (ChkQ u.n u.L u.C W) := fun mem W hW => check_calls' u W (hA.sat hW) hl
 obtain ⟨n, A, cap, L, B, cab, C⟩ := u
 simp only [Un.v] at hl hck ⊢
 refine fun_enter Tryz.func46 rfl Tryz.ntmps46 rfl rfl (satW_nil w) ?_
 repeat (first|refine l_val rfl rfl (by first|exact pureEval_ok rfl|exact v_load rfl (by repeat constructor) rfl (by rfl)|fail) ?_|refine l_nil ?_|refine c_region ?_|refine c_seq ?_|refine x_then ?_|refine r_box rfl rfl rfl rfl (fun _ => ?_)|fail)
 refine r_callI (ι := (Nat -> Int) × (Nat -> Int) × (Nat -> Nat)) (v := fun i => .tuple ⟨[.agg ⟨treeL i.1 i.2.1 i.2.2⟩, .int .i64 (chkU n L C)]⟩) rfl rfl rfl (fun W hW => (hck _ W hW).mono fun e W' ⟨g1, g2⟩ => ?_) ?_
 ·rcases g2 with ⟨g2, g3⟩ | ⟨_, f, g, h, g2⟩
  ·exact ⟨(fI C C.length, gT C n.toNat n.toNat, hT C n.toNat n.toNat), by rw [g2]; exact g3, g1⟩
  ·exact ⟨(f, g, h), g2, g1⟩
 rintro ⟨f, g, h⟩
 simp only
 repeat (first|refine l_val rfl rfl (by first|exact pureEval_ok rfl|fail) ?_|refine l_nil ?_|refine c_region ?_|refine c_seq ?_|refine x_then ?_|refine c_ret ?_|fail)
 exact x_ret rfl rfl (by repeat (first|exact .nil|(apply Res.tmp; rfl)|(apply Res.cell; rfl; exact (by repeat constructor); rfl; rfl))) rfl (fun W hW => ⟨rfl, hW.below⟩)
end R23
end Go.Proofs
