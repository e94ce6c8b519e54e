/-
  The functions of this seat as readable predicates, by program; each is the given code by 'kernel_rfl'. Conditions: none.
-/
import Derived.Test.YtpennaeijallfaaVc
import Derived.Test.YtpennaeijallfaaProg
namespace Go.Proofs
open Go Go.Vc Go.RowKit
set_option maxRecDepth 100000
set_option linter.unusedVariables false
def g_gosem_cut_init  (w : World) (Φ : Value → World → Prop) : Prop :=
  CallR Try.prog 1 [] w (fun r1 w2 => r1 = .tuple #[] ∧ Φ (.tuple #[]) w2)
theorem vc_gosem_cut_init  (w : World) (Φ : Value → World → Prop) : vcBody Try.prog Try.f2 (annOf []) [] w Φ = g_gosem_cut_init  w Φ := by kernel_rfl
theorem fn_gosem_cut_init  (w : World) (Φ : Value → World → Prop) (h : g_gosem_cut_init  w Φ) : CallR Try.prog 2 [] w Φ :=
  fn_of_vc (ann := annOf []) Try.func2 (by kernel_rfl) ((vc_gosem_cut_init  w Φ).mpr h)

def g_laws_FnExactConstants  (w : World) (Φ : Value → World → Prop) : Prop :=
  Φ (.bool true) w
theorem vc_laws_FnExactConstants  (w : World) (Φ : Value → World → Prop) : vcBody Try.prog Try.f3 (annOf []) [] w Φ = g_laws_FnExactConstants  w Φ := by kernel_rfl
theorem fn_laws_FnExactConstants  (w : World) (Φ : Value → World → Prop) (h : g_laws_FnExactConstants  w Φ) : CallR Try.prog 3 [] w Φ :=
  fn_of_vc (ann := annOf []) Try.func3 (by kernel_rfl) ((vc_laws_FnExactConstants  w Φ).mpr h)

end Go.Proofs
