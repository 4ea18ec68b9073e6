/- Awk: a part of the proof of PrefixBack. Own work. -/
import Derived.Test.YtcimijgokedcgaaAbTab
import Derived.Test.YtcimijgokedcgaaAbLift
import Derived.KernelRfl
set_option linter.unusedVariables false
set_option linter.unusedSimpArgs false
set_option linter.unusedSectionVars false
namespace Go.Proofs
open Go Go.Ab
set_option maxRecDepth 100000

set_option maxRecDepth 1000000
theorem awakeRun : runF (R := Bool) Try.E 100000 1000 4 [] ⟨.nil, 0⟩ (fun v _ => match v with | .bool b => b | _ => false) = true := by kernel_rfl

theorem awake_ct : PCallTo Try.prog 4 [] (.bool true) := by
  obtain ⟨v, h', hk, hc⟩ := run_closed (P := Try.prog) Try.EOK awakeRun
  cases v with
  | bool b =>
    have hb : b = true := hk
    subst hb
    refine pure_of (hc.keep (σ := fun _ => none) (ε := fun _ => none) (F := fun _ => False) (h2 := ⟨.nil, 0⟩) ?_ (.pure (.bool _)) ?_ ?_) (by simp) (.bool _)
    · refine ⟨fun _ _ _ h => (by cases h), fun _ _ h => (by cases h), fun i _ o h => ?_, fun _ _ h => (by cases h), fun _ _ h => (by cases h), fun _ _ _ h => (by cases h)⟩
      simp [Heap.get, T.get_nil] at h
    · intro i o _ h; simp [Heap.get, T.get_nil] at h
    · intro i o _ h hf; exact hf
  | _ => cases hk
end Go.Proofs
