/- Parts of the proof in YthlbnmohaeeccaaFin: FsAl. -/
import Derived.Test.YthlbnmohaeeccaaK4
set_option linter.unusedVariables false
set_option linter.unusedSimpArgs false
section
namespace Go.Px.Fs
open Go.Proofs
theorem xs_ok : ∀ f ∈ [140], ∃ fn, cF.P.funcs[f]? = some fn ∧ (fn.name == "runtime.NumGoroutine") = false ∧ fn.body.isNone = true ∧ Extern.findNext fn = none ∧ Extern.find fn = some Extern.BytealgCompare.compare := by
 intro f hf
 rw [List.mem_singleton] at hf
 subst hf
 exact ⟨Try.f140, Try.func140, by kernel_rfl, by kernel_rfl, by kernel_rfl, by kernel_rfl⟩
set_option maxRecDepth 1000000 in
theorem alive_ran : answers (app cF drawA 100000 (extC [140]) 60 (.f 19) [] h0) true = true := by kernel_rfl
theorem kAl : KOk cF 19 [] (.bool true) := KOk.run cF_ok (fun f => get_leaf none f) hm eF.g (extC_ok xs_ok) (answers_ok alive_ran) rfl
end Go.Px.Fs
end
