/- StnBound, walked. -/
import Derived.Test.YtakjgfdaaebifaaStL8
set_option linter.unusedSectionVars false
set_option linter.unusedVariables false
set_option linter.unusedSimpArgs false
namespace Go.Proofs
open Go.RowKit Go.Kin Go.Kin.St
namespace R22

/-! ## A link that asks for a difference -/
def askL (p q lo : Int) : Lk := ⟨p, q, lo, 1099511627776⟩
noncomputable def askR (n : Int) (l : List Lk) (p q lo : Int) : Bool × Bool :=
  if lo < -1099511627776 ∨ 1099511627776 < lo then (true, true) else ((ear n (l ++ [askL p q lo])).isSome, decide (chk n (l ++ [askL p q lo]) = 0))

theorem ext_heap {w : World} {b : Nat} {cs : List Value} {T : TypeId} (h : w.heap[b]? = some (.cells ⟨cs⟩ T (0, 0))) : Ext w (base w) b 0 cs :=
  ⟨lt_of_heap h, fun i v hi => by unfold World.cell?; rw [h, Nat.zero_add]; simpa using hi⟩

set_option maxRecDepth 100000 in
set_option maxHeartbeats 4000000 in
theorem asks_calls (n p q lo : Int) (A : Option Addr) (cap b1 b2 b3 : Nat) (l : List Lk) (w : World) (hl : l.length ≤ 200) (hA : At w A 4 (l.map lkE))
    (h1 : w.heap[b1]? = some (.cells ⟨netCells n A l.length cap⟩ 24 (0, 0))) (h2 : w.heap[b2]? = some (.cells ⟨[.int .i64 p]⟩ 3 (0, 0))) (h3 : w.heap[b3]? = some (.cells ⟨[.int .i64 q]⟩ 3 (0, 0))) :
    Calls Try.prog 26 ⟨[.int .i64 lo, .pointer (some ⟨b1, 0, none⟩), .pointer (some ⟨b2, 0, none⟩), .pointer (some ⟨b3, 0, none⟩)]⟩ w fun e w' => e = .returned (.tuple ⟨[.bool (askR n l p q lo).1, .bool (askR n l p q lo).2]⟩) ∧ Below w.heap.size w w' := by
  have x1 : Ext w (base w) b1 0 [.int .i64 n, .slice A l.length cap] := ext_heap h1
  have x2 := ext_heap h2
  have x3 := ext_heap h3
  refine fun_enter Try.func26 rfl Try.ntmps26 rfl rfl (satW_nil w) ?_
  by_cases hlo : lo < -1099511627776 ∨ 1099511627776 < lo
  · have hr : askR n l p q lo = (true, true) := if_pos hlo
    rw [hr]
    by_cases h : lo < -1099511627776
    · repeat (first | refine l_val rfl rfl (by first | exact pureEval_ok rfl ) ?_ | refine l_nil ?_ | refine c_region ?_ | refine c_seq ?_ | refine x_then ?_ | refine l_skip rfl rfl ?_ | refine c_true rfl ?_ | refine c_ret ?_ | refine x_then_ret ?_ | refine l_dec_t rfl rfl rfl rfl rfl (by first | omega ) ?_ )
      exact x_ret rfl rfl (by repeat (first | exact Res.nil | (apply Res.tmp; rfl) | (apply Res.cell; rfl; exact (by repeat (first | exact List.Mem.head _ | apply List.Mem.tail)); rfl; rfl))) rfl (fun W hW => ⟨by first | rfl | (simp; done) | (simp_all; done), hW.below⟩)
    · repeat (first | refine l_val rfl rfl (by first | exact pureEval_ok rfl ) ?_ | refine l_nil ?_ | refine c_region ?_ | refine c_seq ?_ | refine x_then ?_ | refine c_dec_t rfl (by first | omega ) ?_ | refine c_ret ?_ | refine x_then_ret ?_ | refine l_dec_f rfl rfl rfl rfl rfl (by first | omega ) ?_ )
      exact x_ret rfl rfl (by repeat (first | exact Res.nil | (apply Res.tmp; rfl) | (apply Res.cell; rfl; exact (by repeat (first | exact List.Mem.head _ | apply List.Mem.tail)); rfl; rfl))) rfl (fun W hW => ⟨by first | rfl | (simp; done) | (simp_all; done), hW.below⟩)
  · have hr : askR n l p q lo = ((ear n (l ++ [askL p q lo])).isSome, decide (chk n (l ++ [askL p q lo]) = 0)) := if_neg hlo
    rw [hr]
    repeat (first | refine l_val rfl rfl (by first | exact pureEval_ok rfl ) ?_ | refine l_nil ?_ | refine c_region ?_ | refine c_seq ?_ | refine x_then ?_ | refine c_dec_f rfl (by first | omega ) ?_ | refine c_skip ?_ | refine l_dec_f rfl rfl rfl rfl rfl (by first | omega ) ?_ )
    refine c_new 0 5 [(2, .new 0), (5, .app 1 (some 0) 4), (10, .new 2), (11, .app 3 (some 1) 4), (13, .new 4), (14, .sto 4 0 2)] [(2,[0]),(5,[1,0]),(10,[2]),(11,[3,1]),(13,[4]),(14,[4])] [(5,0),(11,1),(11,2)] rfl (by decide +kernel) rfl ?_; repeat (first | refine e_val rfl rfl rfl rfl (by first | exact pureEval_ok rfl | exact v_load_ext0 rfl (by assumption) rfl (by rfl) | exact v_load_ext rfl (by assumption) rfl (by rfl) ) ?_ | refine e_new rfl rfl rfl rfl (by first | exact n_buildSlice rfl rfl rfl rfl (by rfl) ) (fun _ => ?_) )
    refine e_app (xs := (l.map lkE).flatten) (n := l.length) (e := 47) rfl rfl rfl rfl rfl (by decide) (lk_flat_len l) (by unfold maxLen; omega) rfl ?_ (fun b3 cap3 rest3 hg3 => ?_)
    · by_cases hn : l = []
      · subst hn
        exact a_append0 (rest := []) rfl rfl rfl rfl (by repeat (first | exact List.Mem.head _ | apply List.Mem.tail)) ⟨rfl, rfl, Nat.le_refl _, Nat.zero_le _⟩
      · obtain ⟨bA, oA, rfl, hE⟩ := at_flat hA hn
        exact a_append (xs := []) (rest := []) rfl rfl rfl rfl (news_ext hE) (by repeat (first | exact List.Mem.head _ | apply List.Mem.tail)) ⟨rfl, rfl, Nat.le_refl _, Nat.zero_le _⟩ (lk_flat_len l) (lk_one l) rfl (Nat.zero_add _) (by omega) (by unfold maxLen; omega)
    repeat (first | refine e_val rfl rfl rfl rfl (by first | exact pureEval_ok rfl | exact v_load_ext0 rfl (by assumption) rfl (by rfl) | exact v_build rfl rfl (by rfl) ) ?_ | refine e_new rfl rfl rfl rfl (by first | exact n_buildSlice rfl rfl rfl rfl (by rfl) ) (fun _ => ?_) )
    refine e_app (xs := (l.map lkE).flatten ++ lkE (askL p q lo)) (n := l.length + 1) (e := 47) rfl rfl rfl rfl rfl (by decide) (by rw [List.length_append, lk_flat_len]; simp only [lkE, List.length_cons, List.length_nil]; omega) (by unfold maxLen; omega) rfl
      (a_append rfl rfl rfl rfl (news_own (by repeat (first | exact List.Mem.head _ | apply List.Mem.tail))) (by repeat (first | exact List.Mem.head _ | apply List.Mem.tail)) hg3 rfl (allOne_mem rfl) rfl rfl (by omega) (by unfold maxLen; omega)) (fun b5 cap5 rest5 hg5 => ?_)
    repeat (first | refine l_val rfl rfl (by first | exact v_load rfl (by repeat (first | exact List.Mem.head _ | apply List.Mem.tail)) rfl (by rfl) ) ?_ | refine c_region ?_ | refine c_seq ?_ | refine x_then ?_ | refine e_val rfl rfl rfl rfl (by first | exact v_build rfl rfl (by rfl) ) ?_ | refine e_new rfl rfl rfl rfl (by first | exact n_alloc rfl (by first | exact aggL ) ) (fun _ => ?_) | refine e_store rfl rfl rfl rfl rfl rfl rfl rfl (by first | rfl ) rfl rfl (by first | (simp; done) ) (by first | exact splice_lit (by rfl) ) ?_ | refine e_nil rfl ?_ )
    have hl' : (l ++ [askL p q lo]).length = l.length + 1 := by simp
    have hrow : (l.map lkE).flatten ++ lkE (askL p q lo) ++ rest5 = ((l ++ [askL p q lo]).map lkE).flatten ++ rest5 := by rw [lk_snoc]
    cases he : ear n (l ++ [askL p q lo]) with
    | none =>
      refine r_call rfl rfl rfl (fun W hW => hl' ▸ earQ_none (Ear_calls n (some ⟨b5, 0, none⟩) cap5 (l ++ [askL p q lo]) W (by omega) (hW.rows (b := b5) (by repeat (first | exact List.Mem.head _ | apply List.Mem.tail)) hrow (lk_len _))) he) ?_
      repeat (first | refine l_val rfl rfl (by first | exact pureEval_ok rfl ) ?_ | refine l_nil ?_ | refine c_region ?_ | refine c_seq ?_ | refine x_then ?_ | refine c_ret ?_ )
      exact x_ret rfl rfl (by repeat (first | exact Res.nil | (apply Res.tmp; rfl) | (apply Res.cell; rfl; exact (by repeat (first | exact List.Mem.head _ | apply List.Mem.tail)); rfl; rfl))) rfl (fun W hW => ⟨by first | rfl | (simp; done) | (simp_all; done), hW.below⟩)
    | some L =>
      rw [(ear_least he).1]
      refine r_call1 (ι := Nat) (bk := fun b => b) rfl rfl rfl (fun W hW => hl' ▸ earQ_some (Ear_calls n (some ⟨b5, 0, none⟩) cap5 (l ++ [askL p q lo]) W (by omega) (hW.rows (b := b5) (by repeat (first | exact List.Mem.head _ | apply List.Mem.tail)) hrow (lk_len _))) he) (fun b1 => ?_)
      repeat (first | refine l_val rfl rfl (by first | exact pureEval_ok rfl ) ?_ | refine l_nil ?_ | refine c_region ?_ | refine c_seq ?_ | refine x_then ?_ | refine c_ret ?_ )
      exact x_ret rfl rfl (by repeat (first | exact Res.nil | (apply Res.tmp; rfl) | (apply Res.cell; rfl; exact (by repeat (first | exact List.Mem.head _ | apply List.Mem.tail)); rfl; rfl))) rfl (fun W hW => ⟨by first | rfl | (simp; done) | (simp_all; done), hW.below⟩)

/-! ## What bounds mean -/
theorem sol_snoc {l : List Lk} {x : Lk} {t : Nat → Int} : Sol (edges (l ++ [x])) t ↔ Sol (edges l) t ∧ x.lo ≤ t x.to.toNat - t x.fr.toNat ∧ t x.to.toNat - t x.fr.toNat ≤ x.hi := by
  rw [sol_links, sol_links]
  constructor
  · intro h
    exact ⟨fun y hy => h y (List.mem_append_left _ hy), h x (by simp)⟩
  · rintro ⟨h1, h2⟩ y hy
    rcases List.mem_append.1 hy with hy | hy
    · exact h1 y hy
    · simp only [List.mem_singleton] at hy
      subst hy; exact h2
theorem bnd_facts {n : Int} {l : List Lk} {L : Nat → Int} (he : ear n l = some L) {p q : Int} (hp : ptsIn n p q) :
    ((bndp n l p).2 q.toNat = true → (∀ t, Sol (edges l) t → t q.toNat - t p.toNat ≤ (bndp n l p).1 q.toNat) ∧ ∃ t, Sol (edges l) t ∧ t q.toNat - t p.toNat = (bndp n l p).1 q.toNat) ∧
    ((bndp n l p).2 q.toNat = false → (bndp n l p).1 q.toNat = 0 ∧ ∀ v, ∃ t, Sol (edges l) t ∧ v ≤ t q.toNat - t p.toNat) := by
  obtain ⟨hc, hL⟩ := ear_least he
  obtain ⟨c1, c2, c3, hF⟩ := chk_fine hc
  unfold ptsIn at hp
  exact bound_means (W := 1099511627776) (by omega) hF.inE (fun e he => (hF.weights e he).2) hL.sol (by omega) (by omega) (Nat.le_refl n.toNat)
theorem chk_ask {n : Int} {l : List Lk} {p q lo : Int} (hc : chk n l = 0) (hl : l.length ≤ 200) (hp : ptsIn n p q) (hne : p ≠ q) (h1 : -1099511627776 ≤ lo) (h2 : lo ≤ 1099511627776) : chk n (l ++ [askL p q lo]) = 0 := by
  obtain ⟨c1, c2, c3, hF⟩ := chk_fine hc
  unfold ptsIn at hp
  refine chk_0 (by omega) (by simp; omega) fun x hx => ?_
  rcases List.mem_append.1 hx with hx | hx
  · exact hF x hx
  · simp only [List.mem_singleton] at hx
    subst hx
    simp only [Lk.Fine, askL]; omega
theorem ask_yes {n : Int} {l : List Lk} {p q lo : Int} (hc : chk n l = 0) (hl : l.length ≤ 200) (hp : ptsIn n p q) (hne : p ≠ q) (h1 : -1099511627776 ≤ lo) (h2 : lo ≤ 1099511627776) {t : Nat → Int} (ht : Sol (edges l) t) (h3 : lo ≤ t q.toNat - t p.toNat) (h4 : t q.toNat - t p.toNat ≤ 1099511627776) :
    askR n l p q lo = (true, true) := by
  unfold askR
  rw [if_neg (by omega), chk_ask hc hl hp hne h1 h2]
  cases he : ear n (l ++ [askL p q lo]) with
  | none => exact absurd (sol_snoc.2 ⟨ht, h3, h4⟩) (ear_none he (chk_ask hc hl hp hne h1 h2) t)
  | some L => rfl
theorem ask_no {n : Int} {l : List Lk} {p q lo : Int} (hc : chk n l = 0) (hl : l.length ≤ 200) (hp : ptsIn n p q) (hne : p ≠ q) (h1 : -1099511627776 ≤ lo) (h2 : lo ≤ 1099511627776) (h : ∀ t, Sol (edges l) t → t q.toNat - t p.toNat < lo) :
    askR n l p q lo = (false, true) := by
  unfold askR
  rw [if_neg (by omega), chk_ask hc hl hp hne h1 h2]
  have he : ear n (l ++ [askL p q lo]) = none := ear_no fun t ht => by
    obtain ⟨g1, g2, _⟩ := sol_snoc.1 ht
    have := h t g1
    simp only [askL] at g2
    omega
  rw [he]; rfl
theorem ask_out {n : Int} {l : List Lk} {p q lo : Int} (h : lo < -1099511627776 ∨ 1099511627776 < lo) : askR n l p q lo = (true, true) := if_pos h

/-- a bound is not far off -/
theorem bnd_near {n : Int} {l : List Lk} {L : Nat → Int} (he : ear n l = some L) {p q : Int} (hp : ptsIn n p q) (h : (bndp n l p).2 q.toNat = true) : -140737488355328 ≤ (bndp n l p).1 q.toNat ∧ (bndp n l p).1 q.toNat ≤ 140737488355328 := by
  obtain ⟨hc, hL⟩ := ear_least he
  obtain ⟨c1, c2, c3, hF⟩ := chk_fine hc
  have hp2 := hp
  unfold ptsIn at hp2
  have h1 := ((bnd_facts he hp).1 h).1 L hL.sol
  have b1 := ear_bound he (x := p.toNat) (by omega)
  have b2 := ear_bound he (x := q.toNat) (by omega)
  obtain ⟨N, rfl⟩ : ∃ N : Nat, n = N := ⟨n.toNat, by omega⟩
  have h2 := near_of hF (by omega) (a := p.toNat) (by omega) N (x := q.toNat) (by omega) h
  have h3 : (bndp N l p).1 q.toNat ≤ 70368744177664 := h2
  omega
/-- from a point to itself -/
theorem bnd_self {n : Int} {l : List Lk} {L : Nat → Int} (he : ear n l = some L) {p : Int} (hp : ptsIn n p p) : (bndp n l p).2 p.toNat = true ∧ (bndp n l p).1 p.toNat = 0 := by
  have hb := bnd_facts he hp
  cases h : (bndp n l p).2 p.toNat with
  | true =>
    obtain ⟨_, t, _, h2⟩ := hb.1 h
    exact ⟨rfl, by omega⟩
  | false =>
    obtain ⟨_, h2⟩ := hb.2 h
    obtain ⟨t, _, h3⟩ := h2 1
    omega
/-- without a bound, any difference can be asked for -/
theorem ask_any {n : Int} {l : List Lk} {L : Nat → Int} (he : ear n l = some L) (hl : l.length ≤ 200) {p q more : Int} (hp : ptsIn n p q) (hne : p ≠ q) (h0 : 0 ≤ more) (h1 : more ≤ 4294967295) (h : (bndp n l p).2 q.toNat = false)
    (hb : (bndp n l q).2 p.toNat = true → -1099511627776 ≤ (bndp n l q).1 p.toNat) : askR n l p q more = (true, true) := by
  obtain ⟨hc, hL⟩ := ear_least he
  have hp' : ptsIn n q p := by unfold ptsIn at hp ⊢; omega
  obtain ⟨_, hu⟩ := (bnd_facts he hp).2 h
  have hlow : ∃ v t, Sol (edges l) t ∧ more ≤ v ∧ v ≤ 1099511627776 ∧ t q.toNat - t p.toNat ≤ v := by
    cases h2 : (bndp n l q).2 p.toNat with
    | true =>
      have h3 := hb h2
      obtain ⟨_, t, ht, h4⟩ := (bnd_facts he hp').1 h2
      by_cases h5 : more ≤ -(bndp n l q).1 p.toNat
      · exact ⟨-(bndp n l q).1 p.toNat, t, ht, h5, by omega, by omega⟩
      · exact ⟨more, t, ht, Int.le_refl _, by omega, by omega⟩
    | false =>
      obtain ⟨_, h3⟩ := (bnd_facts he hp').2 h2
      obtain ⟨t, ht, h4⟩ := h3 0
      exact ⟨more, t, ht, Int.le_refl _, by omega, by omega⟩
  obtain ⟨v, t, ht, g1, g2, g3⟩ := hlow
  obtain ⟨u, hu1, hu2⟩ := hu v
  obtain ⟨r, hr, hr2⟩ := between ht hu1 g3 hu2
  exact ask_yes hc hl hp hne (by omega) (by omega) hr (by omega) (by omega)

set_option maxRecDepth 100000 in
set_option maxHeartbeats 4000000 in
theorem stnBound_calls (n : Int) (A T : Option Addr) (cap capT : Nat) (l : List Lk) (p q : Int) (t : List Int) (more : Int) (w : World) (hA : At w A 4 (l.map lkE)) (hT : At w T 1 (t.map inE)) (hp : 0 ≤ p ∧ p ≤ 255) (hq : 0 ≤ q ∧ q ≤ 255) (hm : 0 ≤ more ∧ more ≤ 4294967295) :
    Calls Try.prog 7 ⟨[.agg ⟨netCells n A l.length cap⟩, .int .u8 p, .int .u8 q, .slice T t.length capT, .int .u32 more]⟩ w fun e w' => e = .returned (.bool true) ∧ Below w.heap.size w w' := by
  refine fun_enter Try.func7 rfl Try.ntmps7 rfl rfl (satW_nil w) ?_
  repeat (first | refine l_val rfl rfl (by first | exact pureEval_ok rfl ) ?_ | refine l_nil ?_ | refine c_region ?_ | refine c_seq ?_ | refine x_then ?_ | refine r_box rfl rfl rfl rfl (fun _ => ?_) )
  rename_i y1
  refine r_call rfl rfl rfl (fun W hW => sane_calls W) ?_
  by_cases h200 : (l.length : Int) ≤ 200
  · by_cases h300 : (t.length : Int) ≤ 300
    · repeat (first | refine l_val rfl rfl (by first | exact pureEval_ok rfl | exact v_load rfl (by repeat (first | exact List.Mem.head _ | apply List.Mem.tail)) rfl (by rfl) ) ?_ | refine l_nil ?_ | refine c_region ?_ | refine c_seq ?_ | refine x_then ?_ | refine c_false rfl ?_ | refine c_skip ?_ | refine l_dec_f rfl rfl rfl rfl rfl (by first | omega | exact fun h => h rfl ) ?_ )
      refine r_call rfl rfl rfl (fun W hW => check_calls n A cap l W (by omega) (hA.sat hW)) ?_
      by_cases hc : chk n l = 0
      · obtain ⟨c1, c2, c3, hF⟩ := chk_fine hc
        rw [hc]
        have hwp : IntKind.i64.wrap p = p := wrap_i64 (by omega) (by omega)
        have hwq : IntKind.i64.wrap q = q := wrap_i64 (by omega) (by omega)
        have hwm : IntKind.i64.wrap more = more := wrap_i64 (by omega) (by omega)
        have p1 := Int.emod_nonneg (IntKind.i64.wrap p) (show n ≠ 0 by omega)
        have p2 := Int.emod_lt_of_pos (IntKind.i64.wrap p) (show 0 < n by omega)
        have q1 := Int.emod_nonneg (IntKind.i64.wrap q) (show n ≠ 0 by omega)
        have q2 := Int.emod_lt_of_pos (IntKind.i64.wrap q) (show 0 < n by omega)
        repeat (first | refine l_val rfl rfl (by first | exact pureEval_ok rfl ) ?_ | refine l_nil ?_ | refine c_seq ?_ | refine x_then ?_ | refine c_false rfl ?_ | refine c_skip ?_ )
        refine c_new 1 2 [(10, .new 1), (11, .new 2), (12, .sto 1 0 1), (13, .sto 2 0 1)] [(10,[1]),(11,[2]),(12,[1]),(13,[2])] [] rfl (by decide +kernel) rfl ?_; repeat (first | refine l_val rfl rfl (by first | exact v_load rfl (by repeat (first | exact List.Mem.head _ | apply List.Mem.tail)) rfl (by rfl) ) ?_ | refine c_region ?_ | refine c_seq ?_ | refine x_then ?_ | refine e_val rfl rfl rfl rfl (by first | exact pureEval_ok rfl | exact v_load rfl (by repeat (first | exact List.Mem.head _ | apply List.Mem.tail)) rfl (by rfl) | exact v_rem rfl rfl (by omega) (by omega) ) ?_ | refine e_new rfl rfl rfl rfl (by first | exact n_alloc rfl (by first | exact aggL ) ) (fun _ => ?_) | refine e_store rfl rfl rfl rfl rfl rfl rfl rfl (by first | rfl ) rfl rfl (by first | (simp; done) ) (by first | exact splice_lit (by rfl) ) ?_ | refine e_nil rfl ?_ )
        rename_i y2 y3
        obtain ⟨P, hP⟩ : ∃ P, IntKind.i64.wrap p % n = P := ⟨_, rfl⟩
        obtain ⟨R, hR⟩ : ∃ R, IntKind.i64.wrap q % n = R := ⟨_, rfl⟩
        rw [hP] at p1 p2 ⊢
        rw [hR] at q1 q2 ⊢
        have hpt : ptsIn n P R := ⟨p1, p2, q1, q2⟩
        have hpt' : ptsIn n R P := ⟨q1, q2, p1, p2⟩
        cases he : ear n l with
        | none =>
          refine r_call rfl rfl rfl (fun W hW => bnd_none hc hpt he ▸ Bound_calls n P R A cap l W (by omega) (hA.sat hW)) ?_
          repeat (first | refine l_val rfl rfl (by first | exact pureEval_ok rfl | exact v_load rfl (by repeat (first | exact List.Mem.head _ | apply List.Mem.tail)) rfl (by rfl) ) ?_ | refine l_nil ?_ | refine c_region ?_ | refine c_seq ?_ | refine x_then ?_ )
          refine r_call rfl rfl rfl (fun W hW => hc ▸ earQ_none (Ear_calls n A cap l W (by omega) (hA.sat hW)) he) ?_
          repeat (first | refine l_val rfl rfl (by first | exact pureEval_ok rfl ) ?_ | refine l_nil ?_ | refine c_region ?_ | refine c_seq ?_ | refine x_then ?_ | refine c_true rfl ?_ | refine c_false rfl ?_ | refine c_skip ?_ | refine c_ret ?_ | refine x_then_ret ?_ )
          exact x_ret rfl rfl (by repeat (first | exact Res.nil | (apply Res.tmp; rfl) | (apply Res.cell; rfl; exact (by repeat (first | exact List.Mem.head _ | apply List.Mem.tail)); rfl; rfl))) rfl (fun W hW => ⟨by first | rfl | (simp; done) | (simp_all; done), hW.below⟩)
        | some L =>
          have hbf := bnd_facts he hpt
          have hnear := bnd_near he hpt
          have hself := fun (_ : Unit) (h : P = R) => bnd_self he (p := P) (h ▸ hpt)
          have hany := fun (_ : Unit) hne h hb => ask_any he (by omega) hpt hne hm.1 hm.2 h hb
          have e1 := bnd_some hc hpt he
          have e2 := bnd_some hc hpt' he
          obtain ⟨d1, hd1⟩ : ∃ d, (bndp n l P).1 R.toNat = d := ⟨_, rfl⟩
          obtain ⟨m1, hm1⟩ : ∃ d, (bndp n l P).2 R.toNat = d := ⟨_, rfl⟩
          obtain ⟨d2, hd2⟩ : ∃ d, (bndp n l R).1 P.toNat = d := ⟨_, rfl⟩
          obtain ⟨m2, hm2⟩ : ∃ d, (bndp n l R).2 P.toNat = d := ⟨_, rfl⟩
          rw [hd1, hm1] at e1 hbf hnear
          rw [hd2, hm2] at e2 hany
          rw [hm1] at hany
          refine r_call rfl rfl rfl (fun W hW => e1 ▸ Bound_calls n P R A cap l W (by omega) (hA.sat hW)) ?_
          repeat (first | refine l_val rfl rfl (by first | exact pureEval_ok rfl | exact v_load rfl (by repeat (first | exact List.Mem.head _ | apply List.Mem.tail)) rfl (by rfl) ) ?_ | refine l_nil ?_ | refine c_region ?_ | refine c_seq ?_ | refine x_then ?_ )
          refine r_call1 (ι := Nat) (bk := fun b => b) rfl rfl rfl (fun W hW => earQ_some (Ear_calls n A cap l W (by omega) (hA.sat hW)) he) (fun b1 => ?_)
          repeat (first | refine l_val rfl rfl (by first | exact pureEval_ok rfl ) ?_ | refine l_nil ?_ | refine c_region ?_ | refine c_seq ?_ | refine x_then ?_ | refine c_false rfl ?_ | refine c_skip ?_ | refine c_reads rfl (by decide +kernel) ?_ | refine q_val rfl rfl (by first | exact pureEval_ok rfl | exact v_load rfl (by repeat (first | exact List.Mem.head _ | apply List.Mem.tail)) rfl (by rfl) ) ?_ )
          obtain ⟨sb, hsb⟩ : ∃ b, schB n l t = b := ⟨_, rfl⟩
          cases m1 with
          | true =>
            have hbt := hbf.1 rfl
            have hn2 := hnear rfl
            have hask : Unit → P ≠ R → askR n l P R d1 = (true, true) := fun _ hne => by
              by_cases ho : d1 < -1099511627776 ∨ 1099511627776 < d1
              · exact ask_out ho
              · obtain ⟨_, t0, h0, h00⟩ := hbt
                exact ask_yes hc (by omega) hpt hne (by omega) (by omega) h0 (by omega) (by omega)
            have hask1 : Unit → P ≠ R → (askR n l P R (d1 + 1) = (true, true) ∧ (d1 + 1 < -1099511627776 ∨ 1099511627776 < d1 + 1)) ∨ askR n l P R (d1 + 1) = (false, true) := fun _ hne => by
              by_cases ho : d1 + 1 < -1099511627776 ∨ 1099511627776 < d1 + 1
              · exact .inl ⟨ask_out ho, ho⟩
              · exact .inr (ask_no hc (by omega) hpt hne (by omega) (by omega) fun t0 h0 => by have := hbt.1 t0 h0; omega)
            clear hbf hnear
            refine q_call rfl rfl rfl (fun W hW => hsb ▸ met_calls n A T cap capT l t W (by omega) (by omega) (hA.sat hW) (hT.sat hW) hF (by omega)) ?_
            cases sb with
            | false =>
              repeat (first | refine l_val rfl rfl (by first | exact pureEval_ok rfl | exact v_load rfl (by repeat (first | exact List.Mem.head _ | apply List.Mem.tail)) rfl (by rfl) ) ?_ | refine l_nil ?_ | refine c_region ?_ | refine c_seq ?_ | refine x_then ?_ | refine c_false rfl ?_ | refine c_skip ?_ | refine q_val rfl rfl (by first | exact pureEval_ok rfl | exact v_load rfl (by repeat (first | exact List.Mem.head _ | apply List.Mem.tail)) rfl (by rfl) ) ?_ | refine q_nil ?_ | refine q_skip rfl rfl ?_ )
              by_cases hPR : P = R
              · subst hPR
                obtain ⟨_, h0⟩ := hself () rfl
                rw [hd1] at h0
                repeat (first | refine l_val rfl rfl (by first | exact pureEval_ok rfl ) ?_ | refine l_nil ?_ | refine c_region ?_ | refine c_seq ?_ | refine x_then ?_ | refine c_dec_t rfl (by first | omega ) ?_ | refine c_ret ?_ | refine x_then_ret ?_ )
                exact x_ret rfl rfl (by repeat (first | exact Res.nil | (apply Res.tmp; rfl) | (apply Res.cell; rfl; exact (by repeat (first | exact List.Mem.head _ | apply List.Mem.tail)); rfl; rfl))) rfl (fun W hW => ⟨by first | rfl | (simp; done) | (simp_all; done), hW.below⟩)
              · repeat (first | refine l_val rfl rfl (by first | exact pureEval_ok rfl ) ?_ | refine l_nil ?_ | refine c_region ?_ | refine c_seq ?_ | refine x_then ?_ | refine c_false rfl ?_ | refine c_dec_f rfl (by first | omega ) ?_ | refine c_skip ?_ | refine l_dec_f rfl rfl rfl rfl rfl (by first | omega ) ?_ )
                have ha := hask () hPR
                refine r_callv rfl rfl rfl rfl rfl (fun W hW => ha ▸ asks_calls n P R d1 A cap y1 y2 y3 l W (by omega) (hA.sat hW) (hW.own (y1, _) (by repeat (first | exact List.Mem.head _ | apply List.Mem.tail))).2 (hW.own (y2, _) (by repeat (first | exact List.Mem.head _ | apply List.Mem.tail))).2 (hW.own (y3, _) (by repeat (first | exact List.Mem.head _ | apply List.Mem.tail))).2) ?_
                repeat (first | refine l_val rfl rfl (by first | exact v_add rfl rfl (by omega) (by omega) | exact pureEval_ok rfl ) ?_ | refine l_nil ?_ | refine c_region ?_ | refine c_seq ?_ | refine x_then ?_ | refine c_false rfl ?_ | refine c_skip ?_ )
                rcases hask1 () hPR with ⟨ha1, hout⟩ | ha1
                · refine r_callv rfl rfl rfl rfl rfl (fun W hW => ha1 ▸ asks_calls n P R (d1 + 1) A cap y1 y2 y3 l W (by omega) (hA.sat hW) (hW.own (y1, _) (by repeat (first | exact List.Mem.head _ | apply List.Mem.tail))).2 (hW.own (y2, _) (by repeat (first | exact List.Mem.head _ | apply List.Mem.tail))).2 (hW.own (y3, _) (by repeat (first | exact List.Mem.head _ | apply List.Mem.tail))).2) ?_
                  by_cases hlo : d1 + 1 < -1099511627776
                  · repeat (first | refine l_val rfl rfl (by first | exact v_add rfl rfl (by omega) (by omega) | exact pureEval_ok rfl ) ?_ | refine l_nil ?_ | refine c_region ?_ | refine c_seq ?_ | refine x_then ?_ | refine l_skip rfl rfl ?_ | refine c_ret ?_ | refine l_dec_t rfl rfl rfl rfl rfl (by first | omega ) ?_ )
                    exact x_ret rfl rfl (by repeat (first | exact Res.nil | (apply Res.tmp; rfl) | (apply Res.cell; rfl; exact (by repeat (first | exact List.Mem.head _ | apply List.Mem.tail)); rfl; rfl))) rfl (fun W hW => ⟨by first | rfl | (simp; done) | (simp_all; done), hW.below⟩)
                  · repeat (first | refine l_val rfl rfl (by first | exact v_add rfl rfl (by omega) (by omega) | exact pureEval_ok rfl ) ?_ | refine l_nil ?_ | refine c_region ?_ | refine c_seq ?_ | refine x_then ?_ | refine c_ret ?_ | refine l_dec_f rfl rfl rfl rfl rfl (by first | omega ) ?_ )
                    exact x_ret rfl rfl (by repeat (first | exact Res.nil | (apply Res.tmp; rfl) | (apply Res.cell; rfl; exact (by repeat (first | exact List.Mem.head _ | apply List.Mem.tail)); rfl; rfl))) rfl (fun W hW => ⟨by first | rfl | (simp; done) | (simp_all; done), hW.below⟩)
                · refine r_callv rfl rfl rfl rfl rfl (fun W hW => ha1 ▸ asks_calls n P R (d1 + 1) A cap y1 y2 y3 l W (by omega) (hA.sat hW) (hW.own (y1, _) (by repeat (first | exact List.Mem.head _ | apply List.Mem.tail))).2 (hW.own (y2, _) (by repeat (first | exact List.Mem.head _ | apply List.Mem.tail))).2 (hW.own (y3, _) (by repeat (first | exact List.Mem.head _ | apply List.Mem.tail))).2) ?_
                  repeat (first | refine l_val rfl rfl (by first | exact pureEval_ok rfl ) ?_ | refine l_nil ?_ | refine c_region ?_ | refine c_seq ?_ | refine x_then ?_ | refine l_skip rfl rfl ?_ | refine c_ret ?_ )
                  exact x_ret rfl rfl (by repeat (first | exact Res.nil | (apply Res.tmp; rfl) | (apply Res.cell; rfl; exact (by repeat (first | exact List.Mem.head _ | apply List.Mem.tail)); rfl; rfl))) rfl (fun W hW => ⟨by first | rfl | (simp; done) | (simp_all; done), hW.below⟩)
            | true =>
              obtain ⟨htl, htm, hts⟩ := sch_sol hsb
              have hdf := hbt.1 _ hts
              clear hbt
              have hf1 := tf_in htm R.toNat
              have hf2 := tf_in htm P.toNat
              obtain ⟨b2, o2, rfl, x2⟩ := at_int hT (i := R) (by omega) (by omega)
              obtain ⟨b3, o3, hTT, x3⟩ := at_int hT (i := P) (by omega) (by omega)
              cases hTT
              repeat (first | refine l_val rfl rfl (by first | exact pureEval_ok rfl | exact v_load rfl (by repeat (first | exact List.Mem.head _ | apply List.Mem.tail)) rfl (by rfl) ) ?_ | refine l_nil ?_ | refine c_region ?_ | refine c_seq ?_ | refine x_then ?_ | refine c_dec_f rfl (by first | omega | exact fun h => h rfl ) ?_ | refine c_skip ?_ | refine q_val rfl rfl (by first | exact v_sub rfl rfl (by omega) (by omega) | exact pureEval_ok rfl | exact v_load rfl (by repeat (first | exact List.Mem.head _ | apply List.Mem.tail)) rfl (by rfl) | exact v_load_ext0 rfl (by assumption) rfl (by rfl) | exact v_index rfl rfl rfl rfl (by omega) (by omega) (by with_reducible first | exact idx6 _ _  ) ) ?_ | refine q_nil ?_ )
              by_cases hPR : P = R
              · subst hPR
                obtain ⟨_, h0⟩ := hself () rfl
                rw [hd1] at h0
                repeat (first | refine l_val rfl rfl (by first | exact pureEval_ok rfl ) ?_ | refine l_nil ?_ | refine c_region ?_ | refine c_seq ?_ | refine x_then ?_ | refine c_dec_t rfl (by first | omega ) ?_ | refine c_ret ?_ | refine x_then_ret ?_ )
                exact x_ret rfl rfl (by repeat (first | exact Res.nil | (apply Res.tmp; rfl) | (apply Res.cell; rfl; exact (by repeat (first | exact List.Mem.head _ | apply List.Mem.tail)); rfl; rfl))) rfl (fun W hW => ⟨by first | rfl | (simp; done) | (simp_all; done), hW.below⟩)
              · repeat (first | refine l_val rfl rfl (by first | exact pureEval_ok rfl ) ?_ | refine l_nil ?_ | refine c_region ?_ | refine c_seq ?_ | refine x_then ?_ | refine c_false rfl ?_ | refine c_dec_f rfl (by first | omega ) ?_ | refine c_skip ?_ | refine l_dec_f rfl rfl rfl rfl rfl (by first | omega ) ?_ )
                have ha := hask () hPR
                refine r_callv rfl rfl rfl rfl rfl (fun W hW => ha ▸ asks_calls n P R d1 A cap y1 y2 y3 l W (by omega) (hA.sat hW) (hW.own (y1, _) (by repeat (first | exact List.Mem.head _ | apply List.Mem.tail))).2 (hW.own (y2, _) (by repeat (first | exact List.Mem.head _ | apply List.Mem.tail))).2 (hW.own (y3, _) (by repeat (first | exact List.Mem.head _ | apply List.Mem.tail))).2) ?_
                repeat (first | refine l_val rfl rfl (by first | exact v_add rfl rfl (by omega) (by omega) | exact pureEval_ok rfl ) ?_ | refine l_nil ?_ | refine c_region ?_ | refine c_seq ?_ | refine x_then ?_ | refine c_false rfl ?_ | refine c_skip ?_ )
                rcases hask1 () hPR with ⟨ha1, hout⟩ | ha1
                · refine r_callv rfl rfl rfl rfl rfl (fun W hW => ha1 ▸ asks_calls n P R (d1 + 1) A cap y1 y2 y3 l W (by omega) (hA.sat hW) (hW.own (y1, _) (by repeat (first | exact List.Mem.head _ | apply List.Mem.tail))).2 (hW.own (y2, _) (by repeat (first | exact List.Mem.head _ | apply List.Mem.tail))).2 (hW.own (y3, _) (by repeat (first | exact List.Mem.head _ | apply List.Mem.tail))).2) ?_
                  by_cases hlo : d1 + 1 < -1099511627776
                  · repeat (first | refine l_val rfl rfl (by first | exact v_add rfl rfl (by omega) (by omega) | exact pureEval_ok rfl ) ?_ | refine l_nil ?_ | refine c_region ?_ | refine c_seq ?_ | refine x_then ?_ | refine l_skip rfl rfl ?_ | refine c_ret ?_ | refine l_dec_t rfl rfl rfl rfl rfl (by first | omega ) ?_ )
                    exact x_ret rfl rfl (by repeat (first | exact Res.nil | (apply Res.tmp; rfl) | (apply Res.cell; rfl; exact (by repeat (first | exact List.Mem.head _ | apply List.Mem.tail)); rfl; rfl))) rfl (fun W hW => ⟨by first | rfl | (simp; done) | (simp_all; done), hW.below⟩)
                  · repeat (first | refine l_val rfl rfl (by first | exact v_add rfl rfl (by omega) (by omega) | exact pureEval_ok rfl ) ?_ | refine l_nil ?_ | refine c_region ?_ | refine c_seq ?_ | refine x_then ?_ | refine c_ret ?_ | refine l_dec_f rfl rfl rfl rfl rfl (by first | omega ) ?_ )
                    exact x_ret rfl rfl (by repeat (first | exact Res.nil | (apply Res.tmp; rfl) | (apply Res.cell; rfl; exact (by repeat (first | exact List.Mem.head _ | apply List.Mem.tail)); rfl; rfl))) rfl (fun W hW => ⟨by first | rfl | (simp; done) | (simp_all; done), hW.below⟩)
                · refine r_callv rfl rfl rfl rfl rfl (fun W hW => ha1 ▸ asks_calls n P R (d1 + 1) A cap y1 y2 y3 l W (by omega) (hA.sat hW) (hW.own (y1, _) (by repeat (first | exact List.Mem.head _ | apply List.Mem.tail))).2 (hW.own (y2, _) (by repeat (first | exact List.Mem.head _ | apply List.Mem.tail))).2 (hW.own (y3, _) (by repeat (first | exact List.Mem.head _ | apply List.Mem.tail))).2) ?_
                  repeat (first | refine l_val rfl rfl (by first | exact pureEval_ok rfl ) ?_ | refine l_nil ?_ | refine c_region ?_ | refine c_seq ?_ | refine x_then ?_ | refine l_skip rfl rfl ?_ | refine c_ret ?_ )
                  exact x_ret rfl rfl (by repeat (first | exact Res.nil | (apply Res.tmp; rfl) | (apply Res.cell; rfl; exact (by repeat (first | exact List.Mem.head _ | apply List.Mem.tail)); rfl; rfl))) rfl (fun W hW => ⟨by first | rfl | (simp; done) | (simp_all; done), hW.below⟩)
          | false =>
            have hd0 := (hbf.2 rfl).1
            subst hd0
            clear hbf hnear
            refine q_call rfl rfl rfl (fun W hW => hsb ▸ met_calls n A T cap capT l t W (by omega) (by omega) (hA.sat hW) (hT.sat hW) hF (by omega)) ?_
            cases sb with
            | false =>
              repeat (first | refine l_val rfl rfl (by first | exact pureEval_ok rfl | exact v_load rfl (by repeat (first | exact List.Mem.head _ | apply List.Mem.tail)) rfl (by rfl) ) ?_ | refine l_nil ?_ | refine c_region ?_ | refine c_seq ?_ | refine x_then ?_ | refine c_false rfl ?_ | refine c_skip ?_ | refine q_val rfl rfl (by first | exact pureEval_ok rfl | exact v_load rfl (by repeat (first | exact List.Mem.head _ | apply List.Mem.tail)) rfl (by rfl) ) ?_ | refine q_nil ?_ | refine q_skip rfl rfl ?_ )
              by_cases hPR : P = R
              · subst hPR
                obtain ⟨h0, _⟩ := hself () rfl
                rw [hm1] at h0
                cases h0
              · repeat (first | refine l_val rfl rfl (by first | exact pureEval_ok rfl | exact v_load rfl (by repeat (first | exact List.Mem.head _ | apply List.Mem.tail)) rfl (by rfl) ) ?_ | refine l_nil ?_ | refine c_region ?_ | refine c_seq ?_ | refine x_then ?_ | refine c_true rfl ?_ | refine c_dec_f rfl (by first | omega ) ?_ | refine c_skip ?_ )
                refine r_call rfl rfl rfl (fun W hW => e2 ▸ Bound_calls n R P A cap l W (by omega) (hA.sat hW)) ?_
                by_cases hbk : m2 = true ∧ d2 < -1099511627776
                · obtain ⟨rfl, hbk⟩ := hbk
                  repeat (first | refine l_val rfl rfl (by first | exact pureEval_ok rfl ) ?_ | refine l_nil ?_ | refine c_region ?_ | refine c_seq ?_ | refine x_then ?_ | refine c_dec_t rfl (by first | omega ) ?_ | refine c_ret ?_ | refine x_then_ret ?_ )
                  exact x_ret rfl rfl (by repeat (first | exact Res.nil | (apply Res.tmp; rfl) | (apply Res.cell; rfl; exact (by repeat (first | exact List.Mem.head _ | apply List.Mem.tail)); rfl; rfl))) rfl (fun W hW => ⟨by first | rfl | (simp; done) | (simp_all; done), hW.below⟩)
                · have ha := hany () hPR rfl (fun h => by
                    rcases Int.lt_or_le d2 (-1099511627776) with h' | h'
                    · exact absurd ⟨h, h'⟩ hbk
                    · exact h')
                  cases m2 with
                  | false =>
                    repeat (first | refine l_val rfl rfl (by first | exact pureEval_ok rfl ) ?_ | refine l_nil ?_ | refine c_region ?_ | refine c_seq ?_ | refine x_then ?_ | refine l_skip rfl rfl ?_ | refine c_false rfl ?_ | refine c_skip ?_ )
                    refine r_callv rfl rfl rfl rfl rfl (fun W hW => hwm ▸ ha ▸ asks_calls n P R more A cap y1 y2 y3 l W (by omega) (hA.sat hW) (hW.own (y1, _) (by repeat (first | exact List.Mem.head _ | apply List.Mem.tail))).2 (hW.own (y2, _) (by repeat (first | exact List.Mem.head _ | apply List.Mem.tail))).2 (hW.own (y3, _) (by repeat (first | exact List.Mem.head _ | apply List.Mem.tail))).2) ?_
                    repeat (first | refine l_val rfl rfl (by first | exact pureEval_ok rfl ) ?_ | refine l_nil ?_ | refine c_region ?_ | refine c_seq ?_ | refine x_then ?_ | refine c_ret ?_ | refine x_then_ret ?_ )
                    exact x_ret rfl rfl (by repeat (first | exact Res.nil | (apply Res.tmp; rfl) | (apply Res.cell; rfl; exact (by repeat (first | exact List.Mem.head _ | apply List.Mem.tail)); rfl; rfl))) rfl (fun W hW => ⟨by first | rfl | (simp; done) | (simp_all; done), hW.below⟩)
                  | true =>
                    have hbk2 : ¬ d2 < -1099511627776 := fun h => hbk ⟨rfl, h⟩
                    repeat (first | refine l_val rfl rfl (by first | exact pureEval_ok rfl ) ?_ | refine l_nil ?_ | refine c_region ?_ | refine c_seq ?_ | refine x_then ?_ | refine c_dec_f rfl (by first | omega ) ?_ | refine c_skip ?_ )
                    refine r_callv rfl rfl rfl rfl rfl (fun W hW => hwm ▸ ha ▸ asks_calls n P R more A cap y1 y2 y3 l W (by omega) (hA.sat hW) (hW.own (y1, _) (by repeat (first | exact List.Mem.head _ | apply List.Mem.tail))).2 (hW.own (y2, _) (by repeat (first | exact List.Mem.head _ | apply List.Mem.tail))).2 (hW.own (y3, _) (by repeat (first | exact List.Mem.head _ | apply List.Mem.tail))).2) ?_
                    repeat (first | refine l_val rfl rfl (by first | exact pureEval_ok rfl ) ?_ | refine l_nil ?_ | refine c_region ?_ | refine c_seq ?_ | refine x_then ?_ | refine c_ret ?_ | refine x_then_ret ?_ )
                    exact x_ret rfl rfl (by repeat (first | exact Res.nil | (apply Res.tmp; rfl) | (apply Res.cell; rfl; exact (by repeat (first | exact List.Mem.head _ | apply List.Mem.tail)); rfl; rfl))) rfl (fun W hW => ⟨by first | rfl | (simp; done) | (simp_all; done), hW.below⟩)
            | true =>
              repeat (first | refine l_val rfl rfl (by first | exact pureEval_ok rfl | exact v_load rfl (by repeat (first | exact List.Mem.head _ | apply List.Mem.tail)) rfl (by rfl) ) ?_ | refine l_nil ?_ | refine c_region ?_ | refine c_seq ?_ | refine x_then ?_ | refine c_false rfl ?_ | refine c_skip ?_ | refine q_val rfl rfl (by first | exact pureEval_ok rfl | exact v_load rfl (by repeat (first | exact List.Mem.head _ | apply List.Mem.tail)) rfl (by rfl) ) ?_ | refine q_nil ?_ | refine q_skip rfl rfl ?_ )
              by_cases hPR : P = R
              · subst hPR
                obtain ⟨h0, _⟩ := hself () rfl
                rw [hm1] at h0
                cases h0
              · repeat (first | refine l_val rfl rfl (by first | exact pureEval_ok rfl | exact v_load rfl (by repeat (first | exact List.Mem.head _ | apply List.Mem.tail)) rfl (by rfl) ) ?_ | refine l_nil ?_ | refine c_region ?_ | refine c_seq ?_ | refine x_then ?_ | refine c_true rfl ?_ | refine c_dec_f rfl (by first | omega ) ?_ | refine c_skip ?_ )
                refine r_call rfl rfl rfl (fun W hW => e2 ▸ Bound_calls n R P A cap l W (by omega) (hA.sat hW)) ?_
                by_cases hbk : m2 = true ∧ d2 < -1099511627776
                · obtain ⟨rfl, hbk⟩ := hbk
                  repeat (first | refine l_val rfl rfl (by first | exact pureEval_ok rfl ) ?_ | refine l_nil ?_ | refine c_region ?_ | refine c_seq ?_ | refine x_then ?_ | refine c_dec_t rfl (by first | omega ) ?_ | refine c_ret ?_ | refine x_then_ret ?_ )
                  exact x_ret rfl rfl (by repeat (first | exact Res.nil | (apply Res.tmp; rfl) | (apply Res.cell; rfl; exact (by repeat (first | exact List.Mem.head _ | apply List.Mem.tail)); rfl; rfl))) rfl (fun W hW => ⟨by first | rfl | (simp; done) | (simp_all; done), hW.below⟩)
                · have ha := hany () hPR rfl (fun h => by
                    rcases Int.lt_or_le d2 (-1099511627776) with h' | h'
                    · exact absurd ⟨h, h'⟩ hbk
                    · exact h')
                  cases m2 with
                  | false =>
                    repeat (first | refine l_val rfl rfl (by first | exact pureEval_ok rfl ) ?_ | refine l_nil ?_ | refine c_region ?_ | refine c_seq ?_ | refine x_then ?_ | refine l_skip rfl rfl ?_ | refine c_false rfl ?_ | refine c_skip ?_ )
                    refine r_callv rfl rfl rfl rfl rfl (fun W hW => hwm ▸ ha ▸ asks_calls n P R more A cap y1 y2 y3 l W (by omega) (hA.sat hW) (hW.own (y1, _) (by repeat (first | exact List.Mem.head _ | apply List.Mem.tail))).2 (hW.own (y2, _) (by repeat (first | exact List.Mem.head _ | apply List.Mem.tail))).2 (hW.own (y3, _) (by repeat (first | exact List.Mem.head _ | apply List.Mem.tail))).2) ?_
                    repeat (first | refine l_val rfl rfl (by first | exact pureEval_ok rfl ) ?_ | refine l_nil ?_ | refine c_region ?_ | refine c_seq ?_ | refine x_then ?_ | refine c_ret ?_ | refine x_then_ret ?_ )
                    exact x_ret rfl rfl (by repeat (first | exact Res.nil | (apply Res.tmp; rfl) | (apply Res.cell; rfl; exact (by repeat (first | exact List.Mem.head _ | apply List.Mem.tail)); rfl; rfl))) rfl (fun W hW => ⟨by first | rfl | (simp; done) | (simp_all; done), hW.below⟩)
                  | true =>
                    have hbk2 : ¬ d2 < -1099511627776 := fun h => hbk ⟨rfl, h⟩
                    repeat (first | refine l_val rfl rfl (by first | exact pureEval_ok rfl ) ?_ | refine l_nil ?_ | refine c_region ?_ | refine c_seq ?_ | refine x_then ?_ | refine c_dec_f rfl (by first | omega ) ?_ | refine c_skip ?_ )
                    refine r_callv rfl rfl rfl rfl rfl (fun W hW => hwm ▸ ha ▸ asks_calls n P R more A cap y1 y2 y3 l W (by omega) (hA.sat hW) (hW.own (y1, _) (by repeat (first | exact List.Mem.head _ | apply List.Mem.tail))).2 (hW.own (y2, _) (by repeat (first | exact List.Mem.head _ | apply List.Mem.tail))).2 (hW.own (y3, _) (by repeat (first | exact List.Mem.head _ | apply List.Mem.tail))).2) ?_
                    repeat (first | refine l_val rfl rfl (by first | exact pureEval_ok rfl ) ?_ | refine l_nil ?_ | refine c_region ?_ | refine c_seq ?_ | refine x_then ?_ | refine c_ret ?_ | refine x_then_ret ?_ )
                    exact x_ret rfl rfl (by repeat (first | exact Res.nil | (apply Res.tmp; rfl) | (apply Res.cell; rfl; exact (by repeat (first | exact List.Mem.head _ | apply List.Mem.tail)); rfl; rfl))) rfl (fun W hW => ⟨by first | rfl | (simp; done) | (simp_all; done), hW.below⟩)
      · repeat (first | refine l_val rfl rfl (by first | exact pureEval_ok rfl ) ?_ | refine l_nil ?_ | refine c_region ?_ | refine c_seq ?_ | refine x_then ?_ | refine c_dec_t rfl (by first | omega ) ?_ | refine c_ret ?_ | refine x_then_ret ?_ )
        exact x_ret rfl rfl (by repeat (first | exact Res.nil | (apply Res.tmp; rfl) | (apply Res.cell; rfl; exact (by repeat (first | exact List.Mem.head _ | apply List.Mem.tail)); rfl; rfl))) rfl (fun W hW => ⟨by first | rfl | (simp; done) | (simp_all; done), hW.below⟩)
    · repeat (first | refine l_val rfl rfl (by first | exact pureEval_ok rfl | exact v_load rfl (by repeat (first | exact List.Mem.head _ | apply List.Mem.tail)) rfl (by rfl) ) ?_ | refine l_nil ?_ | refine c_region ?_ | refine c_seq ?_ | refine x_then ?_ | refine l_skip rfl rfl ?_ | refine c_true rfl ?_ | refine c_false rfl ?_ | refine c_skip ?_ | refine c_ret ?_ | refine x_then_ret ?_ | refine l_dec_t rfl rfl rfl rfl rfl (by first | omega ) ?_ | refine l_dec_f rfl rfl rfl rfl rfl (by first | omega ) ?_ )
      exact x_ret rfl rfl (by repeat (first | exact Res.nil | (apply Res.tmp; rfl) | (apply Res.cell; rfl; exact (by repeat (first | exact List.Mem.head _ | apply List.Mem.tail)); rfl; rfl))) rfl (fun W hW => ⟨by first | rfl | (simp; done) | (simp_all; done), hW.below⟩)
  · repeat (first | refine l_val rfl rfl (by first | exact pureEval_ok rfl | exact v_load rfl (by repeat (first | exact List.Mem.head _ | apply List.Mem.tail)) rfl (by rfl) ) ?_ | refine l_nil ?_ | refine c_region ?_ | refine c_seq ?_ | refine x_then ?_ | refine l_skip rfl rfl ?_ | refine c_true rfl ?_ | refine c_false rfl ?_ | refine c_skip ?_ | refine c_ret ?_ | refine x_then_ret ?_ | refine l_dec_t rfl rfl rfl rfl rfl (by first | omega ) ?_ )
    exact x_ret rfl rfl (by repeat (first | exact Res.nil | (apply Res.tmp; rfl) | (apply Res.cell; rfl; exact (by repeat (first | exact List.Mem.head _ | apply List.Mem.tail)); rfl; rfl))) rfl (fun W hW => ⟨by first | rfl | (simp; done) | (simp_all; done), hW.below⟩)
end R22
end Go.Proofs
