/- Uncertain networks: the program's search. -/
import Derived.Test.YtcodoembnjemkaaCtI
import Derived.Test.YtcodoembnjemkaaCtSol
import Derived.Test.YtcodoembnjemkaaStEar
set_option maxRecDepth 100000
set_option maxHeartbeats 400000000
set_option linter.unusedSectionVars false
set_option linter.unusedVariables false
set_option linter.unusedSimpArgs false
namespace Go.Proofs
open Go.RowKit Go.Kin Go.Kin.St Go.Kin.Ct
open R22
namespace R23
/-- boxes of uses -/
def bxO (p : Nat × Us) : Nat × Obj := (p.1, .cells ⟨usE p.2⟩ 103 (0, 0))
/-- what solve answers -/
def SolQ (N : Nat) (C L : List Lk) (w : World) (e : Ending) (w' : World) : Prop :=
 (∃ t b, Least N (redE C N L) (fun _ => 0) t /\ e = .returned (.tuple ⟨[.slice (some ⟨b, 0, none⟩) N N, .slice none 0 0]⟩) /\ Below w.heap.size w w' /\ w.heap.size <= b /\ w'.heap[b]? = some (.cells ⟨ivec N t⟩ 3 (0, 0))) ∨
 (∃ (us : List Us) (b cap : Nat) (rest : List Value), us ≠ [] /\ us.length <= 64 /\ accepts (net C N L) us = true /\ e = .returned (.tuple ⟨[.slice none 0 0, .slice (some ⟨b, 0, none⟩) us.length cap]⟩) /\ Below w.heap.size w w' /\ w.heap.size <= b /\ w'.heap[b]? = some (.cells ⟨flat us.length (fun j => usE (us.getD j ⟨0, false⟩)) ++ rest⟩ 103 (0, 0)))
/-- the state of a round -/
structure RS' where
 k : Nat
 last : Int
 m : MEnt
 wy : Nat -> Option Nat
 ys : List (Nat × Us)
/-- reasons -/
def WyOK (E : List Ed) (N m : Nat) (wy : Nat -> Option Nat) (ys : List (Nat × Us)) : Prop := ∀ x, x < N -> 0 < (srSt (E.map St.flip) m).T x -> ∃ b, wy x = some b /\ (b, useOf ((srSt (E.map St.flip) m).by_ x)) ∈ ys
def LastOK (E : List Ed) (N r m : Nat) (last : Int) : Prop := ∃ x : Nat, last = x /\ x < N /\ r * E.length < (srSt (E.map St.flip) m).T x
theorem redE_use {C L : List Lk} {N k : Nat} (hk : k < (redE C N L).length) : ∃ x, 0 <= (useOf k).link /\ L[(useOf k).link.toNat]? = some x /\ x ∈ L /\ redU C N L (useOf k) = (redE C N L)[k] /\ (redE C N L)[k]? = some ((redE C N L)[k]) := by
 have hlen : (redE C N L).length = 2 * L.length := redE_len
 obtain ⟨x, hx⟩ : ∃ x, L[k / 2]? = some x := ⟨_, List.getElem?_eq_getElem (by omega)⟩
 have hl : (useOf k).link.toNat = k / 2 := by show ((k / 2 : Nat) : Int).toNat = k / 2; omega
 have h0 : 0 <= (useOf k).link := by show (0 : Int) <= ((k / 2 : Nat) : Int); omega
 have h1 : (redE C N L)[k]? = some (redU C N L (useOf k)) := by
  have h := stepOf_net (C := C) (n := N) (L := L) (u := useOf k) h0 (by rw [hl]; exact hx)
  rw [stepOf_useOf] at h
  rw [redU_of (by rw [hl]; exact hx)]
  exact h
 refine ⟨x, h0, by rw [hl]; exact hx, List.mem_of_getElem? hx, ?_, List.getElem?_eq_getElem hk⟩
 rw [List.getElem?_eq_getElem hk] at h1
 exact (Option.some.inj h1).symm
theorem tm_0 (E : List Ed) : tm E 0 = fun _ => 0 := by
 have := tm_pass E 0
 rw [Nat.zero_mul] at this
 exact this
/-- the cycle so far -/
def cySl (k b cap : Nat) : Value := match k with
 | 0 => .slice none 0 0
 | k + 1 => .slice (some ⟨b, 0, none⟩) (k + 1) cap
def cyM (g : Nat -> Us) (k b : Nat) (rest : List Value) (m : List (Nat × Obj)) : List (Nat × Obj) := match k with
 | 0 => m
 | k + 1 => (b, .cells ⟨flat (k + 1) (fun j => usE (g j)) ++ rest⟩ 103 (0, 0)) :: m
theorem flat_cyc (S : Sr) (c P : Nat) : flat P (fun j => usE (useOf (S.by_ (iter S.fr j c)))) = flat (cyc S c P).length (fun j => usE ((cyc S c P).getD j ⟨0, false⟩)) := by
 rw [cyc_len]
 refine flat_congr fun j hj => ?_
 unfold cyc
 rw [List.getD_eq_getElem?_getD, List.getElem?_map, List.getElem?_range hj]; rfl
theorem solve_calls (u : Un) (N : Nat) (w : World) (hn : u.n = N) (hN1 : 1 <= N) (hN : N <= 64) (hA : u.In w) (hl : u.C.length <= 30) (hll : u.L.length <= 30) (hTr : Tree N u.C) (hF : Fine N u.L) :
  Calls Try.prog 58 ⟨[.agg ⟨u.v⟩, .agg ⟨theTree u.C N⟩]⟩ w (SolQ N u.C u.L w) := by
 have hE : In N (redE u.C N u.L) := redE_in hTr hF
 have hwt := redE_few hTr hF hl
 have hel : (redE u.C N u.L).length = 2 * u.L.length := redE_len
 have hof : ∀ (b : OfB) (k : Nat) (m : MEnt) (W : World), k < (redE u.C N u.L).length -> Same (base w) w W -> OfIn u N b W -> W.heap[b.m]? = some m.o -> (∀ e ∈ m.es, EntU (redU u.C N u.L) e) ->
   Calls Try.prog 99 ⟨[ukV (useOf k), .pointer (some ⟨b.mc, 0, none⟩), .pointer (some ⟨b.u, 0, none⟩), .pointer (some ⟨b.t, 0, none⟩), .pointer (some ⟨b.g, 0, none⟩)]⟩ W fun e w' => ∃ m' : MEnt, (∀ e ∈ m'.es, EntU (redU u.C N u.L) e) /\ e = .returned (.agg ⟨edE (edgeAt (redE u.C N u.L) k)⟩) /\ Same (fun k => k ≠ b.m) W w' /\ w'.heap[b.m]? = some m'.o := fun b k m W hk hs hb hm hme => by
  obtain ⟨x, h1, h2, h3, h4, h5⟩ := redE_use hk
  have h6 : edgeAt (redE u.C N u.L) k = redU u.C N u.L (useOf k) := by unfold edgeAt; rw [h5, h4]; rfl
  rw [h6]
  exact of_calls u N b (useOf k) x m W hn hN (hA.later hs.base_later) (by omega) hTr hF h1 h2 hb hm hme
 have hst : ∀ (mem : List (Nat × Obj)) (W : World), SatW w (base w) noJ mem W -> _ := fun mem W hW => steps_calls' u N W
 obtain ⟨n, A, cap, L, B, cab, C⟩ := u
 simp only [Un.v] at hn hl hll hTr hF hE hwt hel hof hst ⊢
 subst hn
 generalize hEd : redE C N L = E at *
 have htl : (theTree C N).length = 384 := theTree_len
 obtain ⟨tr, htr⟩ : ∃ tr, theTree C N = tr := ⟨_, rfl⟩
 rw [htr] at htl hst ⊢
 refine fEn Try.func58 rfl Try.ntmps58 rfl rfl (sWn w) ?_
 repeat (first|refine lVa rfl rfl (v_loadW rfl (by repeat constructor) rfl rfl htl) ?_|refine lVa rfl rfl (by first|exact vLd rfl (by repeat constructor) rfl (by rfl)|fail) ?_|refine lNi ?_|refine cRg ?_|refine cSq ?_|refine xTh ?_|refine r_box rfl rfl rfl rfl (fun _ => ?_)|refine r_alloc rfl rfl rfl (by first|exact aggL|fail) (fun _ => ?_)|refine c_scope ?_|fail)
 rename_i b2 b3 b4 b5
 refine r_callL (ι := OfB) (v := fun b => b.v) (ms := fun b => [(b.g, Obj.cells ⟨[.func (.func 98) ⟨[]⟩ ⟨[.pointer (some ⟨b.u, 0, none⟩), .pointer (some ⟨b.t, 0, none⟩)]⟩]⟩ 151 (0, 0)), (b.mc, .cells ⟨[.map (some b.m)]⟩ 157 (0, 0)), (b.m, .map ⟨[]⟩ 0), (b.t, .cells ⟨tr⟩ 111 (0, 0)), (b.u, .cells ⟨[.int .i64 N, .slice A L.length cap, .slice B C.length cab]⟩ 24 (0, 0))]) rfl rfl rfl (fun W hW => hst _ W hW) ?_
 rintro ⟨bm, bmc, bu, bt, bg⟩
 unfold OfB.v
 simp only [List.cons_append, List.nil_append]
 repeat (first|refine r_make rfl rfl rfl rfl rfl rfl rfl (by omega) (by omega) rfl rfl flat_ptr (fun _ => ?_)|refine lVa rfl rfl (by first|exact v_add rfl rfl (by omega) (by omega)|exact pEv rfl|exact vLd rfl (by repeat constructor) rfl (by rfl)|fail) ?_|refine lNi ?_|refine cRg ?_|refine cSq ?_|refine xTh ?_|refine r_alloc rfl rfl rfl (by first|exact aggL|fail) (fun _ => ?_)|refine rSt rfl rfl rfl rfl rfl rfl rfl (by repeat constructor) (by rfl) ?_|refine r_make rfl rfl rfl rfl rfl rfl (by first|rfl|fail) (by omega) (by omega) rfl rfl (by first|exact flat_int|fail) (fun _ => ?_)|refine cBl ?_|refine c_label ?_|fail)
 rename_i b6 bx bw b7 b8
 refine c_loopD (ι := Nat × List Nat × RS') (fun p => p.1 <= N + 1 /\ (p.1 = 0 ∨ (Loopless E /\ LastOK E N (p.1 - 1) (p.1 * E.length) p.2.2.last)) /\ WyOK E N (p.1 * E.length) p.2.2.wy p.2.2.ys /\ (∀ e ∈ p.2.2.m.es, EntU (redU C N L) e)) (fun p => p.2.1.map Kin.mark) (fun _ => noJ)
  (fun p => [(2, .pointer (some ⟨b2, 0, none⟩)), (4, .pointer (some ⟨b4, 0, none⟩)), (5, .pointer (some ⟨b5, 0, none⟩)), (6, .pointer (some ⟨b6, 0, none⟩)), (7, .pointer (some ⟨b7, 0, none⟩)), (8, .pointer (some ⟨b8, 0, none⟩)), (23, .int .i64 (N + 1)), (24, .int .i64 p.1)])
  (fun p => (b8, .cells ⟨[.int .i64 (p.2.2.last)]⟩ 3 (0, 0)) :: (b7, .cells ⟨[.slice (some ⟨bw, 0, none⟩) N N]⟩ 143 (0, 0)) :: (bw, .cells ⟨pvec N (p.2.2.wy)⟩ 149 (0, 0)) :: (bx, .cells ⟨ivec N (tm E (p.1 * E.length))⟩ 3 (0, 0)) :: (b6, .cells ⟨[.func (.func 99) ⟨[]⟩ ⟨[.pointer (some ⟨bmc, 0, none⟩), .pointer (some ⟨bu, 0, none⟩), .pointer (some ⟨bt, 0, none⟩), .pointer (some ⟨bg, 0, none⟩)]⟩]⟩ 141 (0, 0)) :: (bg, .cells ⟨[.func (.func 98) ⟨[]⟩ ⟨[.pointer (some ⟨bu, 0, none⟩), .pointer (some ⟨bt, 0, none⟩)]⟩]⟩ 151 (0, 0)) :: (bmc, .cells ⟨[.map (some bm)]⟩ 157 (0, 0)) :: (bm, .map ⟨(p.2.2.m).es⟩ (p.2.2.m).ck) :: (bt, .cells ⟨tr⟩ 111 (0, 0)) :: (bu, .cells ⟨[.int .i64 N, .slice A L.length cap, .slice B C.length cab]⟩ 24 (0, 0)) :: (b5, .cells ⟨[.slice none 0 0]⟩ 115 (0, 0)) :: (b4, .cells ⟨[.slice (some ⟨bx, 0, none⟩) N N]⟩ 26 (0, 0)) :: (b2, .cells ⟨[.int .i64 N, .slice A L.length cap, .slice B C.length cab]⟩ 24 (0, 0)) :: (p.2.2.ys.map bxO ++ p.2.1.map opn))
  (fun p => N + 1 - p.1) (0, [], ⟨0, -1, ⟨[], 0⟩, fun _ => none, []⟩) ⟨by omega, .inl rfl, fun x _ h => ?_, fun e he => by cases he⟩ rfl rfl (by repeat (first|exact .nil|refine .cons rfl (by first|rfl|(congr 1; done)|exact congrArg _ (by omega)|(simp; done)) ?_)) ?_ ?_
 ·simp only [Nat.zero_mul] at h
  exact absurd h (Nat.lt_irrefl 0)
 ·simp only [Nat.zero_mul, tm_0]
  exact (by repeat (first|exact .nil|refine .keep (by first|rfl|assumption) ?_|refine .drop ?_|exact MSub.refl _))
 rintro ⟨r, Ds, ⟨k0, last, m, wy, ys⟩⟩ ⟨hr, hlast, hwy, hme⟩
 simp only at hr hlast hwy hme ⊢
 by_cases hlt : r < N + 1
 rotate_left
 ·have hrN : r = N + 1 := by omega
  subst hrN
  obtain ⟨hlo, x, rfl, hxN, hxT⟩ : Loopless E /\ LastOK E N N ((N + 1) * E.length) last := by
   rcases hlast with h | h
   ·omega
   ·exact h
  have hlf : (E.map St.flip).length = E.length := List.length_map ..
  have hE0 : 0 < E.length := by
   rcases Nat.eq_zero_or_pos E.length with h | h
   ·rw [h] at hxT
    have : (srSt (E.map St.flip) 0).T x = 0 := rfl
    simp only [Nat.mul_zero, this] at hxT; omega
   ·exact h
  have hgood := fun P hP hc => sol_cycle (l := net C N L) (n := N) (m := (N + 1) * (edges (net C N L)).length) (x := x) (P := P) (by rw [<- hEd] at hE; exact hE) (by rw [<- hEd] at hlo; exact hlo) (by rw [<- hEd] at hxT; exact hxT) (by rw [<- hEd] at hE0; exact hE0) hP hc
  have hen : edges (net C N L) = E := hEd
  rw [hen] at hgood
  have hInv := sr_inv (E := E.map St.flip) (fun e he hab => by obtain ⟨g, hg, rfl⟩ := List.mem_map.1 he; exact hlo g hg hab.symm) (by rw [hlf]; exact hE0) ((N + 1) * E.length)
  have hxT' : N * (E.map St.flip).length < (srSt (E.map St.flip) ((N + 1) * E.length)).T x := by rw [hlf]; exact hxT
  obtain ⟨hcyc, hTc⟩ := on_cycle hInv (in_flip hE) hxT'
  have hTk : ∀ k, k <= N -> 0 < (srSt (E.map St.flip) ((N + 1) * E.length)).T (iter (srSt (E.map St.flip) ((N + 1) * E.length)).fr k x) := fun k hk => by
   have := chain_stamp hInv k N x hxT' hk
   omega
  have hfr := sr_from (by omega) (in_flip hE) ((N + 1) * E.length)
  have hstep : ∀ y, y < N -> 0 < (srSt (E.map St.flip) ((N + 1) * E.length)).T y -> ∃ b, wy y = some b /\ (b, useOf ((srSt (E.map St.flip) ((N + 1) * E.length)).by_ y)) ∈ ys /\ (srSt (E.map St.flip) ((N + 1) * E.length)).by_ y < E.length /\ (edgeAt E ((srSt (E.map St.flip) ((N + 1) * E.length)).by_ y)).b = (srSt (E.map St.flip) ((N + 1) * E.length)).fr y := fun y hy hT => by
   obtain ⟨b, g1, g2⟩ := hwy y hy hT
   obtain ⟨e, h1, h2, h3, -⟩ := (hInv.pt y).has hT
   have h4 := flip_get h1
   refine ⟨b, g1, g2, (List.getElem?_eq_some_iff.1 h4).1, ?_⟩
   unfold edgeAt
   rw [h4]
   exact h3.symm
  clear hInv hxT hxT' hwy hlast
  obtain ⟨S, hS⟩ : ∃ S, srSt (E.map St.flip) ((N + 1) * E.length) = S := ⟨_, rfl⟩
  rw [hS] at hgood hcyc hTc hTk hfr hstep
  repeat ((fail_if_success refine c_probe (id := 21) ?_); (fail_if_success refine c_probe1 (id := 21) ?_); first|refine lVa rfl rfl (by first|exact pEv rfl|exact vLd rfl (by repeat constructor) rfl (by rfl)|fail) ?_|refine lNi ?_|refine cRg ?_|refine cSq ?_|refine xTh ?_|refine c_false rfl ?_|refine c_dec_f rfl (by first|omega|fail) ?_|refine cSk ?_|refine c_exit ?_|refine xTe ?_|refine xBs ?_|fail)
  refine c_hasJ (R := EntU (redU C N L)) (List.perm_middle (l₁ := [_, _, _, _, _, _, _])) hme (fun hDm => ?_)
  have hcall : ∀ (k : Nat) (mem : List (Nat × Obj)) (W : World), k < E.length -> SatW w (base w) (HasJ bm (EntU (redU C N L))) mem W -> OfIn ⟨N, A, cap, L, B, cab, C⟩ N ⟨bm, bmc, bu, bt, bg⟩ W ->
    Calls Try.prog 99 ⟨[ukV (useOf k), .pointer (some ⟨bmc, 0, none⟩), .pointer (some ⟨bu, 0, none⟩), .pointer (some ⟨bt, 0, none⟩), .pointer (some ⟨bg, 0, none⟩)]⟩ W fun e W' => e = .returned (.agg ⟨edE (edgeAt E k)⟩) /\ SatW w (base w) (HasJ bm (EntU (redU C N L))) mem W' := fun k mem W hk hW ho => by
   obtain ⟨_, _, ents, ck, hb, hR⟩ := hW.word
   exact (hof ⟨bm, bmc, bu, bt, bg⟩ k ⟨ents, ck⟩ W hk hW.same ho hb hR).mono fun e W' ⟨m', g1, g2, g3, g4⟩ => ⟨g2, satW_hasJ hW hDm g3 g4 g1⟩
  refine c_perm (List.perm_middle (l₁ := [_, _, _, _, _, _, _, _, _])) ?_
  repeat (first|refine lVa rfl rfl (by first|exact pEv rfl|exact vLd rfl (by repeat constructor) rfl (by rfl)|fail) ?_|refine lNi ?_|refine cRg ?_|refine cSq ?_|refine xTh ?_|refine cBl ?_|fail)
  refine c_loop (ι := Nat) (fun k => k <= N) (fun k => [(2, .pointer (some ⟨b2, 0, none⟩)), (4, .pointer (some ⟨b4, 0, none⟩)), (5, .pointer (some ⟨b5, 0, none⟩)), (6, .pointer (some ⟨b6, 0, none⟩)), (7, .pointer (some ⟨b7, 0, none⟩)), (8, .pointer (some ⟨b8, 0, none⟩)), (78, .int .i64 N), (79, .int .i64 k)])
   (fun k => (b5, .cells ⟨[.slice none 0 0]⟩ 115 (0, 0)) :: (b8, .cells ⟨[.int .i64 ((iter S.fr k x : Nat) : Int)]⟩ 3 (0, 0)) :: (b7, .cells ⟨[.slice (some ⟨bw, 0, none⟩) N N]⟩ 143 (0, 0)) :: (bw, .cells ⟨pvec N wy⟩ 149 (0, 0)) :: (b6, .cells ⟨[.func (.func 99) ⟨[]⟩ ⟨[.pointer (some ⟨bmc, 0, none⟩), .pointer (some ⟨bu, 0, none⟩), .pointer (some ⟨bt, 0, none⟩), .pointer (some ⟨bg, 0, none⟩)]⟩]⟩ 141 (0, 0)) ::
    (bg, .cells ⟨[.func (.func 98) ⟨[]⟩ ⟨[.pointer (some ⟨bu, 0, none⟩), .pointer (some ⟨bt, 0, none⟩)]⟩]⟩ 151 (0, 0)) :: (bmc, .cells ⟨[.map (some bm)]⟩ 157 (0, 0)) :: (bt, .cells ⟨tr⟩ 111 (0, 0)) :: (bu, .cells ⟨[.int .i64 N, .slice A L.length cap, .slice B C.length cab]⟩ 24 (0, 0)) :: (b4, .cells ⟨[.slice (some ⟨bx, 0, none⟩) N N]⟩ 26 (0, 0)) :: (ys.map bxO ++ Ds.map opn))
   (fun k => N - k) 0 (Nat.zero_le _) (by repeat (first|exact .nil|refine .cons rfl (by first|rfl|(congr 1; done)|exact congrArg _ (by omega)|(simp; done)) ?_)) (by repeat (first|exact .nil|refine .keep (by first|rfl|assumption) ?_|refine .drop ?_|exact MSub.refl _)) ?_
  intro k hk
  have hik := iter_lt hfr hxN k
  by_cases hkN : k < N
  ·obtain ⟨b, q1, q2, q3, q4⟩ := hstep (iter S.fr k x) hik (hTk k hk)
   have hpv : (pvec N wy)[iter S.fr k x]? = some (.pointer (some ⟨b, 0, none⟩)) := by rw [pvec_get hik, q1]; rfl
   have hmb : (b, Obj.cells ⟨usE (useOf (S.by_ (iter S.fr k x)))⟩ 103 (0, 0)) ∈ ys.map bxO := List.mem_map.2 ⟨_, q2, rfl⟩
   repeat (first|refine lVa rfl rfl (by first|exact pEv rfl|fail) ?_|refine lNi ?_|refine cRg ?_|refine cSq ?_|refine xTh ?_|refine c_dec_t rfl (by first|omega|fail) ?_|refine cBl ?_|refine cSk ?_|refine c_cut rfl (by decide +kernel) ?_|refine h_val rfl rfl (by first|exact pEv rfl|exact vLd rfl (by repeat constructor) rfl (by rfl)|exact v_index rfl rfl rfl rfl (by omega) (by omega) (by with_reducible first|exact idx1 _|fail)|exact v_load_at rfl (by repeat constructor) rfl rfl (by first|assumption|fail)|fail) ?_|fail)
   refine h_val rfl rfl (vLd (b := b) rfl (by repeat (first|exact List.mem_append_left _ hmb|apply List.Mem.tail)) rfl rfl) ?_
   refine h_callvJ rfl rfl rfl rfl rfl (fun W hW => hcall (S.by_ (iter S.fr k x)) _ W q3 hW ⟨(hW.own (bmc, _) (by repeat constructor)).2, (hW.own (bu, _) (by repeat constructor)).2, by show W.heap[bt]? = some (.cells ⟨theTree C N⟩ 111 (0, 0)); rw [htr]; exact (hW.own (bt, _) (by repeat constructor)).2, (hW.own (bg, _) (by repeat constructor)).2⟩) ?_
   unfold edE
   rw [q4]
   repeat (first|refine lVa rfl rfl (by first|exact v_add rfl rfl (by omega) (by omega)|exact pEv rfl|fail) ?_|refine lNi ?_|refine cRg ?_|refine xTh ?_|refine x_block ?_|refine h_val rfl rfl (by first|exact pEv rfl|fail) ?_|refine h_do1 rfl (by decide +kernel) (by decide +kernel) rfl rfl (by first|exact d_store rfl rfl rfl rfl rfl rfl (by repeat constructor) (by rfl)|fail) ?_|fail)
   exact x_back (k + 1) hkN (by omega) (by repeat (first|exact .nil|refine .cons rfl (by first|rfl|(congr 1; done)|exact congrArg _ (by omega)|(simp; done)) ?_)) (by repeat (first|exact .nil|refine .keep (by first|rfl|assumption) ?_|refine .drop ?_|exact MSub.refl _))
  ·have hke : k = N := by omega
   rw [hke] at hik ⊢
   clear hk hkN hke
   obtain ⟨c, hc⟩ : ∃ c, iter S.fr N x = c := ⟨_, rfl⟩
   rw [hc] at hgood hcyc hTc hik ⊢
   obtain ⟨P, hP0, hPN, hPc, hPm⟩ := first_back hcyc
   obtain ⟨g, hg⟩ : ∃ g : Nat -> Us, (fun j => useOf (S.by_ (iter S.fr j c))) = g := ⟨_, rfl⟩
   repeat (first|refine lVa rfl rfl (by first|exact pEv rfl|exact vLd rfl (by repeat constructor) rfl (by rfl)|fail) ?_|refine lNi ?_|refine cRg ?_|refine cSq ?_|refine xTh ?_|refine c_dec_f rfl (by first|omega|fail) ?_|refine cBl ?_|refine c_exit ?_|refine xTe ?_|refine xBs ?_|fail)
   refine c_loop (ι := Nat × Nat × Nat × List Value) (fun p => p.1 < P /\ (p.1 = 0 ∨ Grow 2 p.1 (flat p.1 (fun j => usE (g j))) p.2.2.1 p.2.2.2))
    (fun p => [(2, .pointer (some ⟨b2, 0, none⟩)), (4, .pointer (some ⟨b4, 0, none⟩)), (5, .pointer (some ⟨b5, 0, none⟩)), (6, .pointer (some ⟨b6, 0, none⟩)), (7, .pointer (some ⟨b7, 0, none⟩)), (8, .pointer (some ⟨b8, 0, none⟩)), (11, .int .i64 ((iter S.fr p.1 c : Nat) : Int))])
    (fun p => cyM g p.1 p.2.1 p.2.2.2 ((b5, .cells ⟨[cySl p.1 p.2.1 p.2.2.1]⟩ 115 (0, 0)) :: (b8, .cells ⟨[.int .i64 (c : Int)]⟩ 3 (0, 0)) :: (b7, .cells ⟨[.slice (some ⟨bw, 0, none⟩) N N]⟩ 143 (0, 0)) :: (bw, .cells ⟨pvec N wy⟩ 149 (0, 0)) :: (b6, .cells ⟨[.func (.func 99) ⟨[]⟩ ⟨[.pointer (some ⟨bmc, 0, none⟩), .pointer (some ⟨bu, 0, none⟩), .pointer (some ⟨bt, 0, none⟩), .pointer (some ⟨bg, 0, none⟩)]⟩]⟩ 141 (0, 0)) :: (bg, .cells ⟨[.func (.func 98) ⟨[]⟩ ⟨[.pointer (some ⟨bu, 0, none⟩), .pointer (some ⟨bt, 0, none⟩)]⟩]⟩ 151 (0, 0)) :: (bmc, .cells ⟨[.map (some bm)]⟩ 157 (0, 0)) :: (bt, .cells ⟨tr⟩ 111 (0, 0)) :: (bu, .cells ⟨[.int .i64 N, .slice A L.length cap, .slice B C.length cab]⟩ 24 (0, 0)) :: (b4, .cells ⟨[.slice (some ⟨bx, 0, none⟩) N N]⟩ 26 (0, 0)) :: (ys.map bxO ++ Ds.map opn)))
    (fun p => P - p.1) (0, 0, 0, []) ⟨hP0, .inl rfl⟩ (by repeat (first|exact .nil|refine .cons rfl (by first|rfl|(congr 1; done)|exact congrArg _ (by omega)|(simp; done)) ?_)) (by repeat (first|exact .nil|refine .keep (by first|rfl|assumption) ?_|refine .drop ?_|exact MSub.refl _)) ?_
   rintro ⟨i, b10, cap10, rest⟩ ⟨hi, hgr⟩
   simp only at hi hgr ⊢
   have hit := iter_lt hfr hik i
   have hit2 := iter_lt hfr hik (i + 1)
   obtain ⟨b, q1, q2, q3, q4⟩ := hstep (iter S.fr i c) hit (hTc i)
   have hq4 : (edgeAt E (S.by_ (iter S.fr i c))).b = iter S.fr (i + 1) c := q4
   have hpv : (pvec N wy)[iter S.fr i c]? = some (.pointer (some ⟨b, 0, none⟩)) := by rw [pvec_get hit, q1]; rfl
   have hmb : (b, Obj.cells ⟨usE (useOf (S.by_ (iter S.fr i c)))⟩ 103 (0, 0)) ∈ ys.map bxO := List.mem_map.2 ⟨_, q2, rfl⟩
   have hgi : usE (g i) = usE (useOf (S.by_ (iter S.fr i c))) := by rw [<- hg]
   cases i with
   | zero =>
    simp only [cySl, cyM]
    repeat ((fail_if_success refine c_probe (id := 26) ?_); (fail_if_success refine c_probe1 (id := 26) ?_); first|refine cBl ?_|fail)
    refine cSq ?_
    refine c_new 1 2 [(7, .new 1), (8, .app 2 none 2), (9, .sto 0 0 1)] [(7,[1]),(8,[2]),(9,[0])] [(0,0),(8,1)] rfl (by decide +kernel) rfl ?_; repeat (first|refine e_val rfl rfl rfl rfl (vLd (b := b) rfl (by repeat (first|exact List.mem_append_left _ hmb|apply List.Mem.tail)) rfl rfl) ?_|refine e_val rfl rfl rfl rfl (by first|exact pEv rfl|exact vLd rfl (by repeat constructor) rfl (by rfl)|exact v_index rfl rfl rfl rfl (by omega) (by omega) (by with_reducible first|exact idx1 _|fail)|exact v_load_at rfl (by repeat constructor) rfl rfl (by first|assumption|fail)|fail) ?_|refine e_new rfl rfl rfl rfl (by first|exact n_buildSlice rfl rfl rfl rfl (by rfl)|fail) (fun _ => ?_)|fail)
    refine e_app0 (xs := usE (useOf (S.by_ (iter S.fr 0 c)))) (n := 1) (e := 103) rfl rfl rfl rfl (by decide) rfl (by decide) rfl (a_append_nil rfl rfl rfl rfl (news_own (by repeat constructor)) rfl rfl (by decide) (by decide) (by decide)) (fun b7' c7 r7 hg7 => ?_)
    have e1 : usE (useOf (S.by_ (iter S.fr 0 c))) = flat 1 (fun j => usE (g j)) := by rw [<- hgi]; rfl
    rw [e1] at hg7 ⊢
    repeat ((fail_if_success refine c_probe (id := 27) ?_); (fail_if_success refine c_probe1 (id := 27) ?_); first|refine e_store rfl rfl rfl rfl rfl rfl rfl rfl rfl rfl rfl (by decide) (splice_lit (by rfl)) ?_|refine xTh ?_|refine e_nil rfl ?_|fail)
    refine cSq ?_
    refine c_reads rfl (by decide +kernel) ?_
    (first|refine q_val rfl rfl (by first|exact vLd rfl (by repeat constructor) rfl (by rfl)|fail) ?_ )
    (first|refine q_val rfl rfl (by first|exact vLd rfl (by repeat constructor) rfl (by rfl)|fail) ?_ )
    (first|refine q_val rfl rfl (by first|exact pEv rfl|fail) ?_ )
    (first|refine q_val rfl rfl (by first|exact v_index rfl rfl rfl rfl (by omega) (by omega) (by with_reducible first|exact idx1 _|fail)|fail) ?_ )
    (first|refine q_val rfl rfl (by first|exact v_load_at rfl (by repeat constructor) rfl rfl (by first|assumption|fail)|fail) ?_ )
    (first|refine q_val rfl rfl (by first|exact pEv rfl|fail) ?_ )
    refine q_val rfl rfl (vLd (b := b) rfl (by repeat (first|exact List.mem_append_left _ hmb|apply List.Mem.tail)) rfl rfl) ?_
    refine q_callvJ rfl rfl rfl rfl rfl (fun W hW => hcall (S.by_ (iter S.fr (0) c)) _ W q3 hW ⟨(hW.own (bmc, _) (by repeat constructor)).2, (hW.own (bu, _) (by repeat constructor)).2, by show W.heap[bt]? = some (.cells ⟨theTree C N⟩ 111 (0, 0)); rw [htr]; exact (hW.own (bt, _) (by repeat constructor)).2, (hW.own (bg, _) (by repeat constructor)).2⟩) ?_
    unfold edE
    rw [hq4]
    by_cases hb : iter S.fr (0 + 1) c = c
    ·have hP : P = 0 + 1 := by
      rcases Nat.lt_or_ge (0 + 1) P with h | h
      ·exact absurd hb (hPm (0 + 1) (by omega) h)
      ·omega
     subst hP
     rw [hb]
     repeat ((fail_if_success refine c_probe (id := 29) ?_); (fail_if_success refine c_probe1 (id := 29) ?_); first|refine lVa rfl rfl (by first|exact pEv rfl|exact vLd rfl (by repeat constructor) rfl (by rfl)|fail) ?_|refine lNi ?_|refine cRg ?_|refine cSq ?_|refine xTh ?_|refine c_dec_t rfl (by first|omega|fail) ?_|refine q_val rfl rfl (by first|exact pEv rfl|fail) ?_|refine q_nil ?_|fail)
     refine c_sub ((b5, .cells ⟨[.slice (some ⟨b7', 0, none⟩) (0 + 1) c7]⟩ 115 (0, 0)) :: (b7', .cells ⟨flat (0 + 1) (fun j => usE (g j)) ++ r7⟩ 103 (0, 0)) :: (b4, .cells ⟨[.slice (some ⟨bx, 0, none⟩) N N]⟩ 26 (0, 0)) :: (Ds.map opn)) (by repeat (first|exact List.sublist_append_right _ _|apply List.Sublist.cons_cons|apply List.Sublist.cons)) ?_
     refine cSq ?_
     refine c_gen [(1,2),(2,0)] [(1,2,0,1),(2,0,0,1)] [(0,0)] rfl (by decide +kernel) (by repeat' (first|exact trivial|apply And.intro|exact Or.inl (Nat.ne_of_beq_eq_false rfl)|(right; simp only; omega))) ?_; repeat (first|refine xTh ?_|refine c_ret ?_|refine xTr ?_|refine xBr ?_|refine x_scope_ret ?_|refine g_val rfl rfl rfl (by first|exact vLd rfl (by repeat constructor) rfl (by rfl)|fail) ?_|refine g_store rfl rfl rfl rfl rfl rfl rfl rfl (by first|rfl|fail) rfl rfl (by first|(simp; done)|fail) (by first|exact splice_lit (by rfl)|fail) rfl ?_|refine g_nil ?_|fail)
     refine x_noJ (x_rets (Ds := Ds) rfl rfl (by repeat (first|exact Split.nil|exact Split.all|apply Split.mark|apply Split.keep)) rfl (by repeat constructor) rfl (fun W hW => .inr ⟨cyc S c (0 + 1), b7', c7, r7, ?_, ?_, hgood (0 + 1) hP0 hPc, ?_, hW.below, Nat.le_of_not_lt (hW.own (b7', _) (by repeat constructor)).1, ?_⟩))
     ·intro h
      have := congrArg List.length h
      rw [cyc_len] at this
      cases this
     ·rw [cyc_len]; omega
     ·rw [cyc_len]
     ·rw [<- flat_cyc, show (fun j => usE (useOf (S.by_ (iter S.fr j c)))) = fun j => usE (g j) by funext j; rw [<- hg]]
      exact (hW.own (b7', _) (by repeat constructor)).2
    ·have h1P : 0 + 1 < P := by
      rcases Nat.lt_or_ge (0 + 1) P with h | h
      ·exact h
      ·have : P = 0 + 1 := by omega
       subst this
       exact absurd hPc hb
     repeat (first|refine lVa rfl rfl (by first|exact pEv rfl|exact vLd rfl (by repeat constructor) rfl (by rfl)|fail) ?_|refine lNi ?_|refine cRg ?_|refine cSq ?_|refine xTh ?_|refine c_dec_f rfl (by first|omega|fail) ?_|refine cSk ?_|refine x_block ?_|refine q_val rfl rfl (by first|exact pEv rfl|fail) ?_|refine q_nil ?_|fail)
     refine x_perm (List.perm_middle (l₁ := [_, _])) ?_
     exact x_back (0 + 1, b7', c7, r7) ⟨h1P, .inr hg7⟩ (by simp only; omega) (by repeat (first|exact .nil|refine .cons rfl (by first|rfl|(congr 1; done)|exact congrArg _ (by omega)|(simp; done)) ?_)) (by simp only [cySl, cyM]; exact (by repeat (first|exact .nil|refine .keep (by first|rfl|assumption) ?_|refine .drop ?_|exact MSub.refl _)))
   | succ i =>
    have hgr := hgr.resolve_left (by omega)
    simp only [cySl, cyM]
    repeat ((fail_if_success refine c_probe (id := 26) ?_); (fail_if_success refine c_probe1 (id := 26) ?_); first|refine cBl ?_|fail)
    refine cSq ?_
    refine c_new 2 2 [(7, .new 2), (8, .app 3 (some 0) 2), (9, .sto 1 0 1)] [(7,[2]),(8,[3,0]),(9,[1])] [(0,1),(8,2),(8,0)] rfl (by decide +kernel) rfl ?_; repeat (first|refine e_val rfl rfl rfl rfl (vLd (b := b) rfl (by repeat (first|exact List.mem_append_left _ hmb|apply List.Mem.tail)) rfl rfl) ?_|refine e_val rfl rfl rfl rfl (by first|exact pEv rfl|exact vLd rfl (by repeat constructor) rfl (by rfl)|exact v_index rfl rfl rfl rfl (by omega) (by omega) (by with_reducible first|exact idx1 _|fail)|exact v_load_at rfl (by repeat constructor) rfl rfl (by first|assumption|fail)|fail) ?_|refine e_new rfl rfl rfl rfl (by first|exact n_buildSlice rfl rfl rfl rfl (by rfl)|fail) (fun _ => ?_)|fail)
    refine e_app (xs := flat (i + 1) (fun j => usE (g j)) ++ usE (useOf (S.by_ (iter S.fr (i + 1) c)))) (n := i + 1 + 1) (e := 103) rfl rfl rfl rfl rfl (by decide) (by rw [List.length_append, flat_len (sz := 2) (fun _ => rfl)]; show (i + 1) * 2 + 2 = _; omega) (by unfold maxLen; omega) rfl (a_append (m := 1) (ys := usE (useOf (S.by_ (iter S.fr (i + 1) c)))) rfl rfl rfl rfl (news_own (by repeat constructor)) (by repeat constructor) hgr rfl (allOne_mem rfl) rfl rfl (by omega) (by unfold maxLen; omega)) (fun b7' c7 r7 hg7 => ?_)
    have e1 : flat (i + 1) (fun j => usE (g j)) ++ usE (useOf (S.by_ (iter S.fr (i + 1) c))) = flat (i + 1 + 1) (fun j => usE (g j)) := by rw [<- hgi]; exact flat_succ.symm
    rw [e1] at hg7 ⊢
    repeat ((fail_if_success refine c_probe (id := 27) ?_); (fail_if_success refine c_probe1 (id := 27) ?_); first|refine xTh ?_|refine e_store rfl rfl rfl rfl rfl rfl rfl rfl (by first|rfl|fail) rfl rfl (by first|(simp; done)|fail) (by first|exact splice_lit (by rfl)|fail) ?_|refine e_nil rfl ?_|fail)
    refine cSq ?_
    refine c_reads rfl (by decide +kernel) ?_
    (first|refine q_val rfl rfl (by first|exact vLd rfl (by repeat constructor) rfl (by rfl)|fail) ?_ )
    (first|refine q_val rfl rfl (by first|exact vLd rfl (by repeat constructor) rfl (by rfl)|fail) ?_ )
    (first|refine q_val rfl rfl (by first|exact pEv rfl|fail) ?_ )
    (first|refine q_val rfl rfl (by first|exact v_index rfl rfl rfl rfl (by omega) (by omega) (by with_reducible first|exact idx1 _|fail)|fail) ?_ )
    (first|refine q_val rfl rfl (by first|exact v_load_at rfl (by repeat constructor) rfl rfl (by first|assumption|fail)|fail) ?_ )
    (first|refine q_val rfl rfl (by first|exact pEv rfl|fail) ?_ )
    refine q_val rfl rfl (vLd (b := b) rfl (by repeat (first|exact List.mem_append_left _ hmb|apply List.Mem.tail)) rfl rfl) ?_
    refine q_callvJ rfl rfl rfl rfl rfl (fun W hW => hcall (S.by_ (iter S.fr (i + 1) c)) _ W q3 hW ⟨(hW.own (bmc, _) (by repeat constructor)).2, (hW.own (bu, _) (by repeat constructor)).2, by show W.heap[bt]? = some (.cells ⟨theTree C N⟩ 111 (0, 0)); rw [htr]; exact (hW.own (bt, _) (by repeat constructor)).2, (hW.own (bg, _) (by repeat constructor)).2⟩) ?_
    unfold edE
    rw [hq4]
    by_cases hb : iter S.fr (i + 1 + 1) c = c
    ·have hP : P = i + 1 + 1 := by
      rcases Nat.lt_or_ge (i + 1 + 1) P with h | h
      ·exact absurd hb (hPm (i + 1 + 1) (by omega) h)
      ·omega
     subst hP
     rw [hb]
     repeat ((fail_if_success refine c_probe (id := 29) ?_); (fail_if_success refine c_probe1 (id := 29) ?_); first|refine lVa rfl rfl (by first|exact pEv rfl|exact vLd rfl (by repeat constructor) rfl (by rfl)|fail) ?_|refine lNi ?_|refine cRg ?_|refine cSq ?_|refine xTh ?_|refine c_dec_t rfl (by first|omega|fail) ?_|refine q_val rfl rfl (by first|exact pEv rfl|fail) ?_|refine q_nil ?_|fail)
     refine c_sub ((b5, .cells ⟨[.slice (some ⟨b7', 0, none⟩) (i + 1 + 1) c7]⟩ 115 (0, 0)) :: (b7', .cells ⟨flat (i + 1 + 1) (fun j => usE (g j)) ++ r7⟩ 103 (0, 0)) :: (b4, .cells ⟨[.slice (some ⟨bx, 0, none⟩) N N]⟩ 26 (0, 0)) :: (Ds.map opn)) (by repeat (first|exact List.sublist_append_right _ _|apply List.Sublist.cons_cons|apply List.Sublist.cons)) ?_
     refine cSq ?_
     refine c_gen [(1,2),(2,0)] [(1,2,0,1),(2,0,0,1)] [(0,0)] rfl (by decide +kernel) (by repeat' (first|exact trivial|apply And.intro|exact Or.inl (Nat.ne_of_beq_eq_false rfl)|(right; simp only; omega))) ?_; repeat (first|refine xTh ?_|refine c_ret ?_|refine xTr ?_|refine xBr ?_|refine x_scope_ret ?_|refine g_val rfl rfl rfl (by first|exact vLd rfl (by repeat constructor) rfl (by rfl)|fail) ?_|refine g_store rfl rfl rfl rfl rfl rfl rfl rfl (by first|rfl|fail) rfl rfl (by first|(simp; done)|fail) (by first|exact splice_lit (by rfl)|fail) rfl ?_|refine g_nil ?_|fail)
     refine x_noJ (x_rets (Ds := Ds) rfl rfl (by repeat (first|exact Split.nil|exact Split.all|apply Split.mark|apply Split.keep)) rfl (by repeat constructor) rfl (fun W hW => .inr ⟨cyc S c (i + 1 + 1), b7', c7, r7, ?_, ?_, hgood (i + 1 + 1) hP0 hPc, ?_, hW.below, Nat.le_of_not_lt (hW.own (b7', _) (by repeat constructor)).1, ?_⟩))
     ·intro h
      have := congrArg List.length h
      rw [cyc_len] at this
      cases this
     ·rw [cyc_len]; omega
     ·rw [cyc_len]
     ·rw [<- flat_cyc, show (fun j => usE (useOf (S.by_ (iter S.fr j c)))) = fun j => usE (g j) by funext j; rw [<- hg]]
      exact (hW.own (b7', _) (by repeat constructor)).2
    ·have h1P : i + 1 + 1 < P := by
      rcases Nat.lt_or_ge (i + 1 + 1) P with h | h
      ·exact h
      ·have : P = i + 1 + 1 := by omega
       subst this
       exact absurd hPc hb
     repeat (first|refine lVa rfl rfl (by first|exact pEv rfl|exact vLd rfl (by repeat constructor) rfl (by rfl)|fail) ?_|refine lNi ?_|refine cRg ?_|refine cSq ?_|refine xTh ?_|refine c_dec_f rfl (by first|omega|fail) ?_|refine cSk ?_|refine x_block ?_|refine q_val rfl rfl (by first|exact pEv rfl|fail) ?_|refine q_nil ?_|fail)
     refine x_perm (List.perm_middle (l₁ := [_, _])) ?_
     exact x_back (i + 1 + 1, b7', c7, r7) ⟨h1P, .inr hg7⟩ (by simp only; omega) (by repeat (first|exact .nil|refine .cons rfl (by first|rfl|(congr 1; done)|exact congrArg _ (by omega)|(simp; done)) ?_)) (by simp only [cySl, cyM]; exact (by repeat (first|exact .nil|refine .keep (by first|rfl|assumption) ?_|refine .drop ?_|exact MSub.refl _)))
 repeat (first|refine lVa rfl rfl (by first|exact pEv rfl|exact vLd rfl (by repeat constructor) rfl (by rfl)|fail) ?_|refine lNi ?_|refine cRg ?_|refine cSq ?_|refine xTh ?_|refine rSt rfl rfl rfl rfl rfl rfl rfl (by repeat constructor) (by rfl) ?_|refine c_dec_t rfl (by first|omega|fail) ?_|refine cBl ?_|refine cSk ?_|fail)
 refine r_call1 (ι := Nat) (bk := fun b => b) rfl rfl rfl (fun W hW => uses_calls ⟨N, A, cap, L, B, cab, C⟩ W) (fun b9 => ?_)
 repeat (first|refine lNi ?_|refine xTh ?_|refine cBl ?_|fail)
 obtain ⟨LE, hLE⟩ : ∃ n, E.length = n := ⟨_, rfl⟩
 refine c_range usA (usL L.length) (fun k => k = b9) [(b9, .cells ⟨[.int .i64 N, .slice A L.length cap, .slice B C.length cab]⟩ 24 (0, 0))] (ι := RS' ⊕ (Nat × Nat × List (Nat × Us))) (fun i => match i with | .inl s => s.k | .inr _ => 0)
  (fun i => match i with
   | .inl s => s.k <= E.length /\ ((s.last = -1 /\ srSt (E.map St.flip) (r * E.length + s.k) = srSt (E.map St.flip) (r * E.length) /\ Sol (E.take s.k) (tm E (r * E.length))) ∨ LastOK E N r (r * E.length + s.k) s.last) /\ Loopless (E.take s.k) /\ WyOK E N (r * E.length + s.k) s.wy s.ys /\ (∀ e ∈ s.m.es, EntU (redU C N L) e)
   | .inr _ => False)
  (fun i => match i with
   | .inl s => (b8, .cells ⟨[.int .i64 (s.last)]⟩ 3 (0, 0)) :: (b7, .cells ⟨[.slice (some ⟨bw, 0, none⟩) N N]⟩ 143 (0, 0)) :: (bw, .cells ⟨pvec N (s.wy)⟩ 149 (0, 0)) :: (bx, .cells ⟨ivec N (tm E (r * E.length + s.k))⟩ 3 (0, 0)) :: (b6, .cells ⟨[.func (.func 99) ⟨[]⟩ ⟨[.pointer (some ⟨bmc, 0, none⟩), .pointer (some ⟨bu, 0, none⟩), .pointer (some ⟨bt, 0, none⟩), .pointer (some ⟨bg, 0, none⟩)]⟩]⟩ 141 (0, 0)) :: (bg, .cells ⟨[.func (.func 98) ⟨[]⟩ ⟨[.pointer (some ⟨bu, 0, none⟩), .pointer (some ⟨bt, 0, none⟩)]⟩]⟩ 151 (0, 0)) :: (bmc, .cells ⟨[.map (some bm)]⟩ 157 (0, 0)) :: (bm, .map ⟨(s.m).es⟩ (s.m).ck) :: (bt, .cells ⟨tr⟩ 111 (0, 0)) :: (bu, .cells ⟨[.int .i64 N, .slice A L.length cap, .slice B C.length cab]⟩ 24 (0, 0)) :: (b5, .cells ⟨[.slice none 0 0]⟩ 115 (0, 0)) :: (b4, .cells ⟨[.slice (some ⟨bx, 0, none⟩) N N]⟩ 26 (0, 0)) :: (b2, .cells ⟨[.int .i64 N, .slice A L.length cap, .slice B C.length cab]⟩ 24 (0, 0)) :: (s.ys.map bxO ++ Ds.map opn)
   | .inr (bs, k, ys) => (b5, .cells ⟨[.slice (some ⟨bs, 0, none⟩) 1 1]⟩ 115 (0, 0)) :: (b4, .cells ⟨[.slice none 0 0]⟩ 26 (0, 0)) :: (bs, .cells ⟨usE (useOf k)⟩ 103 (0, 0)) :: (ys.map bxO ++ Ds.map opn))
  (fun c i => c = .ret /\ ∃ bs k ys e, i = .inr (bs, k, ys) /\ E[k]? = some e /\ e.a = e.b /\ e.w < 0) (.inl ⟨0, -1, m, wy, ys⟩) rfl
  (fun W W1 hW hs => uses_it (fun k => k = b9) b9 ⟨N, A, cap, L, B, cab, C⟩ W1 (by simp only; omega) (hs.obj (hW.own _ (by repeat constructor)).2 trivial) (fun k hk => by rw [hk]; exact lt_of_heap (hs.obj (hW.own (b9, _) (by repeat constructor)).2 trivial)) rfl)
  (fun b hb => .inr (by simp [hb])) (fun _ _ => rfl) (by decide) rfl ⟨Nat.zero_le _, .inl ⟨rfl, rfl, fun e he => by cases he⟩, (fun e he => by cases he), hwy, hme⟩ (by repeat (first|exact .nil|refine .keep (by first|rfl|assumption) ?_|refine .drop ?_|exact MSub.refl _))
  (env' := [(2, .pointer (some ⟨b2, 0, none⟩)), (4, .pointer (some ⟨b4, 0, none⟩)), (5, .pointer (some ⟨b5, 0, none⟩)), (6, .pointer (some ⟨b6, 0, none⟩)), (7, .pointer (some ⟨b7, 0, none⟩)), (8, .pointer (some ⟨b8, 0, none⟩))]) (by repeat (first|exact .nil|refine .cons rfl (by first|rfl|(congr 1; done)|exact congrArg _ (by omega)|(simp; done)) ?_)) ?_ ?_ ?_
 ·rintro (⟨k, last, m, wy, ys⟩ | p) hI hk n3 lp W1 hW1 hDl hol
  rotate_left
  ·exact hI.elim
  obtain ⟨hkE, hla, hlo, hwy, hme⟩ := hI
  simp only at hkE hla hlo hwy hme hk hW1 hol ⊢
  have hk2 : k < 2 * L.length := by rw [usL_len] at hk; exact hk
  have hkE2 : k < E.length := by omega
  have hus : (usL L.length)[k] = useOf k := (List.getElem?_eq_some_iff.1 (usL_get hk2)).2
  rw [hus]
  obtain ⟨e, hek⟩ : ∃ e, E[k]? = some e := ⟨_, List.getElem?_eq_getElem hkE2⟩
  have hea : edgeAt E k = e := by unfold edgeAt; rw [hek]; rfl
  have hin := List.mem_of_getElem? hek
  obtain ⟨w1, w2⟩ := hwt e hin
  obtain ⟨i1, i2⟩ := hE e hin
  have hrl : r * E.length + k <= 4000 := by
   have : r * E.length <= 64 * 60 := Nat.mul_le_mul (by omega) (by omega)
   omega
  have htw := tm_within (by omega) hwt (r * E.length + k)
  have hup := fun h => sr_up (r := r) hek h
  have hsm := fun h => sr_same (r := r) hek h
  have htk : E.take (k + 1) = E.take k ++ [e] := by rw [List.take_add_one, hek]; rfl
  obtain ⟨t, ht⟩ : ∃ t, tm E (r * E.length + k) = t := ⟨_, rfl⟩
  rw [ht] at htw hup hsm hW1 hol ⊢
  have t1 := htw e.a
  have t2 := htw e.b
  repeat (first|refine lNi ?_|refine cRg ?_|refine r_alloc rfl rfl rfl (by first|exact aggL|fail) (fun _ => ?_)|refine rSt rfl rfl rfl rfl rfl rfl rfl (by repeat constructor) (by rfl) ?_|fail)
  refine x_body hW1 hDl hol (fun n2 W2 rr hW2 hr2 ho => ?_)
  repeat (first|refine lVa rfl rfl (by first|exact vLd rfl (by repeat constructor) rfl (by rfl)|fail) ?_|refine cRg ?_|refine cSq ?_|refine cBl ?_|fail)
  refine r_callvuI (ι := {m' : MEnt // ∀ e ∈ m'.es, EntU (redU C N L) e}) (b := bm) (o := .map ⟨m.es⟩ m.ck) (o' := fun m' => .map ⟨m'.1.es⟩ m'.1.ck) (v := fun _ => .agg ⟨edE e⟩) rfl rfl rfl rfl rfl (by repeat constructor) (fun _ => (by repeat constructor)) (fun W hW hmm => ?_) (fun m' => ?_)
  ·have hs := hW2.same.trans (hW.same.mono fun k hk => hW2.within hk)
   have h := hof ⟨bm, bmc, bu, bt, bg⟩ k m W hkE2 hs ⟨(hW.own (bmc, _) (by repeat constructor)).2, (hW.own (bu, _) (by repeat constructor)).2, by show W.heap[bt]? = some (.cells ⟨theTree C N⟩ 111 (0, 0)); rw [htr]; exact (hW.own (bt, _) (by repeat constructor)).2, (hW.own (bg, _) (by repeat constructor)).2⟩ hmm hme
   rw [hea] at h
   exact h.mono fun e' W' ⟨m', g1, g2, g3, g4⟩ => ⟨⟨m', g1⟩, g2, g3, g4⟩
  obtain ⟨m', hme'⟩ := m'
  simp only
  unfold edE
  by_cases hbr : t e.a < t e.b - e.w
  ·by_cases hab : e.a = e.b
   ·have hneg : e.w < 0 := by rw [hab] at hbr; omega
    repeat ((fail_if_success refine c_probe (id := 13) ?_); (fail_if_success refine c_probe1 (id := 13) ?_); first|refine lVa rfl rfl (by first|exact pEv rfl|exact vLd rfl (by repeat constructor) rfl (by rfl)|fail) ?_|refine lNi ?_|refine cRg ?_|refine cSq ?_|refine xTh ?_|refine r_alloc rfl rfl rfl (by first|exact aggL|fail) (fun _ => ?_)|refine rSt rfl rfl rfl rfl rfl rfl rfl (by repeat constructor) (by rfl) ?_|refine c_dec_t rfl (by first|omega|fail) ?_|refine c_dec_f rfl (by first|omega|fail) ?_|refine cSk ?_|refine c_reads rfl (by decide +kernel) ?_|refine q_val rfl rfl (by first|exact v_sub rfl rfl (by omega) (by omega)|exact pEv rfl|exact vLd rfl (by repeat constructor) rfl (by rfl)|exact v_index rfl rfl rfl rfl (by omega) (by omega) (by with_reducible first|exact idx1 _|fail)|exact v_load_at rfl (by repeat constructor) rfl rfl (by first|exact ivec_get (by omega)|fail)|fail) ?_|refine q_nil ?_|fail)
    rename_i b9' b10'
    refine c_sub ((b9', .cells ⟨[.int .i64 (useOf k).link, .bool (useOf k).lower]⟩ 103 (0, 0)) :: (b5, .cells ⟨[.slice none 0 0]⟩ 115 (0, 0)) :: (b4, .cells ⟨[.slice (some ⟨bx, 0, none⟩) N N]⟩ 26 (0, 0)) :: (ys.map bxO ++ Ds.map opn)) (MSub.sub (by repeat (first|exact .nil|refine .keep (by first|rfl|assumption) ?_|refine .drop ?_|exact MSub.refl _))) ?_
    refine cSq ?_
    refine c_new 3 1 [(1, .new 3), (2, .sto 2 0 1), (3, .sto 1 0 1)] [(1,[3]),(2,[2]),(3,[1])] [] rfl (by decide +kernel) rfl ?_; repeat (first|refine xTh ?_|refine c_ret ?_|refine xTr ?_|refine xBr ?_|refine e_val rfl rfl rfl rfl (by first|exact vLd rfl (by repeat constructor) rfl (by rfl)|fail) ?_|refine e_new rfl rfl rfl rfl (by first|exact n_buildSlice rfl rfl rfl rfl (by rfl)|fail) (fun _ => ?_)|refine e_store rfl rfl rfl rfl rfl rfl rfl rfl (by first|rfl|fail) rfl rfl (by first|(simp; done)|fail) (by first|exact splice_lit (by rfl)|fail) ?_|refine e_nil rfl ?_|fail)
    rename_i bs
    exact x_leave_ret (.inr (bs, k, ys)) ⟨rfl, bs, k, ys, e, rfl, hek, hab, hneg⟩ (by repeat (first|exact .nil|refine .keep (by first|rfl|assumption) ?_|refine .drop ?_|exact MSub.refl _))
   ·obtain ⟨u1, u2, u3, u4⟩ := hup hbr
    have htm : tm E (r * E.length + (k + 1)) = iset t e.a (t e.b - e.w) := u1
    repeat (first|refine r_store_at rfl rfl rfl rfl rfl rfl (by repeat constructor) (by rw [pvec_length]; omega) pvec_set ?_|refine lVa rfl rfl (by first|exact pEv rfl|exact vLd rfl (by repeat constructor) rfl (by rfl)|exact v_index rfl rfl rfl rfl (by omega) (by omega) (by with_reducible first|exact idx1 _|fail)|fail) ?_|refine lNi ?_|refine cRg ?_|refine cSq ?_|refine xTh ?_|refine r_alloc rfl rfl rfl (by first|exact aggL|fail) (fun _ => ?_)|refine rSt rfl rfl rfl rfl rfl rfl rfl (by repeat constructor) (by rfl) ?_|refine c_dec_f rfl (by first|omega|fail) ?_|refine cSk ?_|refine x_block ?_|refine c_reads rfl (by decide +kernel) ?_|refine c_cut rfl (by decide +kernel) ?_|refine q_val rfl rfl (by first|exact v_sub rfl rfl (by omega) (by omega)|exact pEv rfl|exact vLd rfl (by repeat constructor) rfl (by rfl)|exact v_index rfl rfl rfl rfl (by omega) (by omega) (by with_reducible first|exact idx1 _|fail)|exact v_load_at rfl (by repeat constructor) rfl rfl (by first|exact ivec_get (by omega)|fail)|fail) ?_|refine q_nil ?_|refine h_val rfl rfl (by first|exact v_sub rfl rfl (by omega) (by omega)|exact pEv rfl|exact vLd rfl (by repeat constructor) rfl (by rfl)|exact v_index rfl rfl rfl rfl (by omega) (by omega) (by with_reducible first|exact idx1 _|fail)|exact v_load_at rfl (by repeat constructor) rfl rfl (by first|exact ivec_get (by omega)|fail)|fail) ?_|refine h_do1 rfl (by decide +kernel) (by decide +kernel) rfl rfl (by first|exact d_store_at rfl rfl rfl rfl rfl (by repeat constructor) (by first|(rw [ivec_length]; omega)|fail) (by first|exact ivec_set|fail)|fail) ?_|fail)
    rename_i b9' b10'
    refine x_perm (List.Perm.cons _ (List.perm_middle (l₁ := [_, _, _, _, _, _, _, _, _, _, _, _, _])).symm) ?_
    refine x_next (.inl ⟨k + 1, (e.a : Int), m', iset wy e.a (some b9'), (b9', useOf k) :: ys⟩) rfl ⟨hkE2, .inr ⟨e.a, rfl, i1, ?_⟩, ?_, ?_, hme'⟩ (by simp only [htm]; exact (by repeat (first|exact .nil|refine .keep (by first|rfl|assumption) ?_|refine .drop ?_|exact MSub.refl _)))
    ·simp only [u4, upd_self]; omega
    ·intro f hf hfab
     simp only [htk] at hf
     rcases List.mem_append.1 hf with h | h
     ·exact hlo f h hfab
     ·rw [List.mem_singleton.1 h] at hfab
      exact absurd hfab hab
    ·intro x hxN hxT
     simp only [u3, u4] at hxT ⊢
     by_cases hxa : x = e.a
     ·subst hxa
      exact ⟨b9', by unfold iset; rw [if_pos rfl], by rw [upd_self]; exact List.mem_cons_self⟩
     ·rw [upd_other _ _ hxa] at hxT
      obtain ⟨b, g1, g2⟩ := hwy x hxN hxT
      exact ⟨b, by unfold iset; rw [if_neg hxa]; exact g1, by rw [upd_other _ _ hxa]; exact List.mem_cons_of_mem _ g2⟩
  ·have hst := hsm hbr
   have htm : tm E (r * E.length + (k + 1)) = t := by rw [<- ht]; unfold tm; rw [hst]
   repeat (first|refine lNi ?_|refine cSq ?_|refine xTh ?_|refine r_alloc rfl rfl rfl (by first|exact aggL|fail) (fun _ => ?_)|refine rSt rfl rfl rfl rfl rfl rfl rfl (by repeat constructor) (by rfl) ?_|refine c_dec_t rfl (by first|omega|fail) ?_|refine c_exit ?_|refine xTe ?_|refine xBs ?_|refine c_reads rfl (by decide +kernel) ?_|refine q_val rfl rfl (by first|exact v_sub rfl rfl (by omega) (by omega)|exact pEv rfl|exact vLd rfl (by repeat constructor) rfl (by rfl)|exact v_index rfl rfl rfl rfl (by omega) (by omega) (by with_reducible first|exact idx1 _|fail)|exact v_load_at rfl (by repeat constructor) rfl rfl (by first|exact ivec_get (by omega)|fail)|fail) ?_|refine q_nil ?_|fail)
   refine x_next (.inl ⟨k + 1, last, m', wy, ys⟩) rfl ⟨hkE2, ?_, ?_, ?_, hme'⟩ (by simp only [htm]; exact (by repeat (first|exact .nil|refine .keep (by first|rfl|assumption) ?_|refine .drop ?_|exact MSub.refl _)))
   ·simp only [hst]
    rcases hla with ⟨g1, g2, g3⟩ | g
    ·refine .inl ⟨g1, g2, ?_⟩
     have ht2 : tm E (r * E.length) = t := by rw [<- ht]; unfold tm; rw [g2]
     rw [ht2] at g3 ⊢
     rw [htk]
     intro f hf
     rcases List.mem_append.1 hf with h | h
     ·exact g3 f h
     ·rw [List.mem_singleton.1 h]; omega
    ·exact .inr (by unfold LastOK at g ⊢; rw [hst]; exact g)
   ·intro f hf hfab
    simp only [htk] at hf
    rcases List.mem_append.1 hf with h | h
    ·exact hlo f h hfab
    ·rw [List.mem_singleton.1 h] at hfab ⊢
     rw [hfab] at hbr
     omega
   ·unfold WyOK at hwy ⊢
    simp only [hst]
    exact hwy
 ·rintro B' (⟨k, last', m', wy', ys'⟩ | p) hk hI
  rotate_left
  ·exact hI.elim
  obtain ⟨hkE, hla, hlo, hwy', hme'⟩ := hI
  simp only at hk hkE hla hlo hwy' hme' ⊢
  have hke : k = E.length := by rw [hk, usL_len, hel]
  subst hke
  rw [List.take_length] at hla hlo
  have hr1 : r * E.length + E.length = (r + 1) * E.length := by rw [Nat.succ_mul]
  rw [hr1] at hla hwy' ⊢
  rcases hla with ⟨rfl, g2, g3⟩ | ⟨x, rfl, g2, g3⟩
  ·have ht2 : tm E ((r + 1) * E.length) = tm E (r * E.length) := by unfold tm; rw [g2]
   rw [ht2]
   rw [tm_pass] at g3 ⊢
   have hL := sol_least hE g3
   repeat (first|refine lVa rfl rfl (by first|exact pEv rfl|exact vLd rfl (by repeat constructor) rfl (by rfl)|fail) ?_|refine lNi ?_|refine cRg ?_|refine cSq ?_|refine xTh ?_|refine rSt rfl rfl rfl rfl rfl rfl rfl (by repeat constructor) (by rfl) ?_|refine c_true rfl ?_|refine c_ret ?_|refine c_exit ?_|refine xTr ?_|refine xTe ?_|refine x_block ?_|refine xBs ?_|refine x_block_other rfl ?_|refine x_scope_ret ?_|fail)
   refine x_sub ((B', .deferred (some [])) :: (bx, .cells ⟨ivec N (passes E r fun _ => 0)⟩ 3 (0, 0)) :: (b5, .cells ⟨[.slice none 0 0]⟩ 115 (0, 0)) :: (b4, .cells ⟨[.slice (some ⟨bx, 0, none⟩) N N]⟩ 26 (0, 0)) :: (Ds.map opn)) ((by repeat (first|exact List.sublist_append_right _ _|apply List.Sublist.cons_cons|apply List.Sublist.cons))) ?_
   exact x_rets (Ds := B' :: Ds) rfl rfl (by repeat (first|exact Split.nil|exact Split.all|apply Split.mark|apply Split.keep)) rfl (by repeat constructor) rfl (fun W hW => .inl ⟨_, bx, (by rw [hEd]; exact hL), rfl, hW.below, Nat.le_of_not_lt (hW.own (bx, _) (by repeat constructor)).1, (hW.own (bx, _) (by repeat constructor)).2⟩)
  ·repeat (first|refine lVa rfl rfl (by first|exact v_add rfl rfl (by omega) (by omega)|exact pEv rfl|exact vLd rfl (by repeat constructor) rfl (by rfl)|fail) ?_|refine lNi ?_|refine cRg ?_|refine cSq ?_|refine xTh ?_|refine c_false rfl ?_|refine cSk ?_|refine x_block ?_|fail)
   refine x_perm (List.perm_middle (l₁ := [_, _, _, _, _, _, _, _, _, _, _, _, _, _] ++ ys'.map bxO)).symm (x_backD (r + 1, B' :: Ds, ⟨0, (x : Int), m', wy', ys'⟩) ⟨by simp only; omega, .inr ⟨hlo, x, rfl, g2, by simpa using g3⟩, hwy', hme'⟩ (by simp only; omega) rfl rfl (by repeat (first|exact .nil|refine .cons rfl (by first|rfl|(congr 1; done)|exact congrArg _ (by omega)|(simp; done)) ?_)) ?_)
   exact MSub.drop (MSub.refl _)
 ·rintro B' c i ⟨rfl, bs, k, ys', e, rfl, h1, h2, h3⟩
  simp only
  repeat (first|refine c_ret ?_|refine xTr ?_|refine xBr ?_|refine x_scope_ret ?_|fail)
  refine x_sub ((B', .deferred (some [])) :: (b5, .cells ⟨[.slice (some ⟨bs, 0, none⟩) 1 1]⟩ 115 (0, 0)) :: (b4, .cells ⟨[.slice none 0 0]⟩ 26 (0, 0)) :: (bs, .cells ⟨usE (useOf k)⟩ 103 (0, 0)) :: (Ds.map opn)) ((by repeat (first|exact List.sublist_append_right _ _|apply List.Sublist.cons_cons|apply List.Sublist.cons))) ?_
  exact x_rets (Ds := B' :: Ds) rfl rfl (by repeat (first|exact Split.nil|exact Split.all|apply Split.mark|apply Split.keep)) rfl (by repeat constructor) rfl (fun W hW => .inr ⟨[useOf k], bs, 1, [], by simp, (by simp), by refine sol_loop (k := k) (e := e) ?_ h2 h3; rw [<- hEd] at h1; exact h1, rfl, hW.below, Nat.le_of_not_lt (hW.own (bs, _) (by repeat constructor)).1, (hW.own (bs, _) (by repeat constructor)).2⟩)
end R23
end Go.Proofs
