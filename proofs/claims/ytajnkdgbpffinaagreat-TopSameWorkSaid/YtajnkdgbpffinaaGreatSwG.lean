/- The same work: the law, walked. -/
import Derived.Test.YtajnkdgbpffinaaGreatSwF
set_option maxRecDepth 100000
set_option maxHeartbeats 400000000
set_option linter.unusedSectionVars false
set_option linter.unusedVariables false
set_option linter.unusedSimpArgs false
namespace Go.Proofs
open Go.RowKit Go.Kin Go.Kin.Cl
namespace R41
theorem law3_calls (A A3 : Option Addr) (cap c3 : Nat) (l : List Sg) (l3 : List Rg) (cut limit ed day time : Int) (w : World) (hA : Kin.At w A 14 (l.map sgE)) (hz : A = none -> cap = 0) (hcap : l.length <= cap) (hwf : ∀ s ∈ l, s.wf) (hl : l.length <= 9223372036854775807) (hlim : I64 limit) (hA3 : Kin.At w A3 11 (l3.map rgE)) (hl3 : l3.length <= 9223372036854775807) :
  Calls Tryz.prog 3 ⟨[.slice A l.length cap, .int .u32 cut, .int .i64 limit, .slice A3 l3.length c3, .int .i64 ed, .int .i64 day, .int .i64 time]⟩ w fun e w' => e = .returned (.bool true) /\ Under w.heap.size w w' := by
 have hfew := fun W (h : Under w.heap.size w W) => few5_calls A3 c3 l3 W (hA3.later h) hl3
 refine fEn Tryz.func3 rfl Tryz.ntmps3 rfl rfl (sWn w) ?_
 repeat ((fail_if_success refine c_probe (id := 1) ?_); (fail_if_success refine c_probe1 (id := 1) ?_); first|refine lVa rfl rfl (by first|exact pEv rfl|fail) ?_|refine lNi ?_|refine cRg ?_|refine cSq ?_|refine xTh ?_|fail)
 refine cSq ?_
 repeat (first|refine cRg ?_|refine cSq ?_|fail)
 refine r_call rfl rfl rfl (fun W hW => sane4_calls W) ?_
 by_cases h1 : 24 < l.length
 ·clear hfew
  repeat (first|refine lVa rfl rfl (by first|exact pEv rfl|fail) ?_|refine lNi ?_|refine cRg ?_|refine cSq ?_|refine xTh ?_|refine l_skip rfl rfl ?_|refine c_true rfl ?_|refine c_false rfl ?_|refine cSk ?_|refine c_ret ?_|refine xTr ?_|refine l_dec_t rfl rfl rfl rfl rfl (by first|omega|fail) ?_|fail)
  exact x_ret rfl rfl (by repeat constructor) rfl (fun W hW => ⟨rfl, hW.below⟩)
 repeat ((fail_if_success refine c_probe (id := 3) ?_); (fail_if_success refine c_probe1 (id := 3) ?_); first|refine lVa rfl rfl (by first|exact pEv rfl|fail) ?_|refine lNi ?_|refine xTh ?_|refine c_false rfl ?_|refine cSk ?_|fail)
 refine cSq ?_
 repeat (first|refine lVa rfl rfl (by first|exact pEv rfl|fail) ?_|refine cRg ?_|refine cSq ?_|refine l_dec_f rfl rfl rfl rfl rfl (by first|omega|fail) ?_|fail)
 refine r_call rfl rfl rfl (fun W hW => hfew W hW.below) ?_
 cases hq : fewR l3 with
 | false =>
  clear hfew
  repeat (first|refine lVa rfl rfl (by first|exact pEv rfl|fail) ?_|refine lNi ?_|refine cRg ?_|refine cSq ?_|refine xTh ?_|refine l_skip rfl rfl ?_|refine c_true rfl ?_|refine c_ret ?_|refine xTr ?_|fail)
  exact x_ret rfl rfl (by repeat constructor) rfl (fun W hW => ⟨rfl, hW.below⟩)
 | true =>
  clear hfew
  by_cases h2 : 120 < l3.length
  ·repeat (first|refine lVa rfl rfl (by first|exact pEv rfl|fail) ?_|refine lNi ?_|refine cRg ?_|refine cSq ?_|refine xTh ?_|refine c_dec_t rfl (by first|omega|fail) ?_|refine c_ret ?_|refine xTr ?_|fail)
   exact x_ret rfl rfl (by repeat constructor) rfl (fun W hW => ⟨rfl, hW.below⟩)
  have hp := sw_parts (w := w) (A := A) (cap := cap) (l := l) (cut := cut) (limit := limit) (A3 := A3) (c3 := c3) (m3 := l3.length) (ed := ed) (day := day) (time := time) hA (by omega) (fun s g1 g2 g3 g4 => sw_mid s hA hz hcap hwf (by omega) hlim hA3 (by omega) g1 g2 g3 g4)
  repeat ((fail_if_success refine c_probe (id := 5) ?_); (fail_if_success refine c_probe1 (id := 5) ?_); first|refine lVa rfl rfl (by first|exact pEv rfl|fail) ?_|refine lNi ?_|refine xTh ?_|refine c_dec_f rfl (by first|omega|fail) ?_|refine cSk ?_|fail)
  refine c_keep [0, 1, 2, 3, 4, 5, 6] rfl ?_
  exact hp
end R41
end Go.Proofs
