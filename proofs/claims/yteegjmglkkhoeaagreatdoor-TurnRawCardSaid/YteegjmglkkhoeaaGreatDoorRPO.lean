/-
  Walks of functions of the program, and what the laws need of them.
-/
import Derived.Test.YteegjmglkkhoeaaGreatDoorRPM
import Derived.Test.YteegjmglkkhoeaaGreatDoorRPN
import Derived.Test.YteegjmglkkhoeaaGreatDoorRPL
import Derived.Test.YteegjmglkkhoeaaGreatDoorRPK
set_option linter.all false
set_option linter.unusedSimpArgs false
set_option linter.unusedVariables false
set_option linter.unnecessarySimpa false
namespace Go.Proofs.YteegjmglkkhoeaaGreatDoor
set_option maxRecDepth 20000
open Go Go.Proofs.YteegjmglkkhoeaaGreatDoor.V Go.Proofs
def kT : List Pk := [(0, false)]
def eT : List Pk := [(0, false), (0, false), (0, false), (0, true), (0, false)]
theorem eT_ok : expL pX (startT pX) kT = eT := by kernel_rfl
theorem kT_ok : colL pX (startT pX) eT = kT := by kernel_rfl
theorem eT_lock : (sO pX (startT pX) eT).lock = 0 := by kernel_rfl
theorem kT_lock : (sO pX (startT pX) kT).lock ≠ 0 := by rw [show (sO pX (startT pX) kT).lock = 1 by kernel_rfl]; decide
section
attribute [local irreducible] TwS TwR thenT inBlockT retT nextW localW loadedW swapW Rg.push Rg.pop owW doO expL colL sO
set_option maxHeartbeats 20000000 in
theorem aliveT_spec : Pure prog Tabs 13 [] (tB true) := by
 have hq := start_q (p := pX) pX_mem
 have c1 := expand_spec pX pX_okP pX_ok pX_nums hq (by decide) kT (by decide)
 rw [eT_ok] at c1
 have c2 := collapse_t pX pX_okP pX_ok pX_nums hq (by decide) eT (by decide) eT_lock
 rw [kT_ok] at c2
 have c3 := collapse_f pX pX_okP pX_ok pX_nums hq (by decide) kT (by decide) kT_lock
 have c4 := samePicks_spec (G := Tabs) kT (by decide)
 refine Pure.at mixedOk F13 rfl fun C hP hG hp => goF ?_; simp only [F13, targEnv, Nat.zero_add, Nat.reduceAdd]
 repeat' (first | refine goR rfl ?_ | refine goS rfl ?_ | refine tret1 rfl ?_ | refine tretN rfl ?_ | refine gY rfl rfl ?_ | refine gN rfl rfl ?_ | refine qT rfl rfl ?_ | refine qF rfl rfl ?_ | fail)
 refine tr_weak ((w_rowsA (k := 1) (ys := [cIns (mkI 8 false 0 ⟨3, 0, 0, 0⟩ ⟨1, 0, 0, 0⟩ (bs [])), cIns hltI]) rfl (by rfl) (by intro h; cases h) (by decide) ?_).trans (w_freeze (d := 14) (k := 1) rfl rfl (.aggL (.cons (.s 2 true rfl) .nil)))) ?_
 ·repeat' (first | exact .nil | refine .cons ?_ ?_ | exact .nil 1 | exact .refl _)
 refine goRn 1 rfl ?_
 refine tr_weak ((w_rowsA (k := 0) (ys := pX.syms.map cSym) rfl (by rfl) (by intro h; cases h) (by decide) ?_).trans ((w_freeze (d := 16) (k := 0) rfl rfl (.aggL (.cons (.s 1 true rfl) (.cons (.refl _) .nil)))).trans (w_freeze (d := 16) (k := 2) rfl rfl (.aggL (.cons (.refl _) (.cons (.s 1 true rfl) .nil)))))) ?_
 ·repeat' (first | exact .nil | refine .cons ?_ ?_ | exact .nil 1 | exact .refl _)
 repeat' (first | refine goR rfl ?_ | refine goS rfl ?_ | refine tret1 rfl ?_ | refine tretN rfl ?_ | refine gY rfl rfl ?_ | refine gN rfl rfl ?_ | refine qT rfl rfl ?_ | refine qF rfl rfl ?_ | refine cA rfl (by rw [hP, hG]; exact c1) rfl ?_ | refine tr_frzS 19 rfl rfl rfl ?_ | refine cA rfl (by rw [hP, hG]; exact c2) rfl ?_ | refine cA rfl (by rw [hP, hG]; exact c3) rfl ?_ | refine tr_frzS 30 rfl rfl rfl ?_ | refine tr_frzS 47 rfl rfl rfl ?_ | refine cA rfl (by rw [hP, hG]; exact c4) rfl ?_ | refine lT (tl_ixm (m := 3) rfl rfl rfl rfl) ?_ | refine lT (tl_eqT (by rw [hP]; exact sh_pick) (by rw [hP]; exact ag_pick) (by rw [hP]; exact eg_pick) rfl rfl rfl rfl rfl) ?_ | fail)
 exact .fr rfl
end
end Go.Proofs.YteegjmglkkhoeaaGreatDoor
