import Derived.Test.YtghdinkgfpfdoaaGreatSd
/- sane() of law 35 gives true: the interpreter's run, in the kernel. -/
namespace Go.Abs
open Go Go.Proofs
set_option maxRecDepth 100000

def given7 : FuncId → FuncId → Option Spec := fun c f =>
  if f = 192 then some (.p fPutInt)
  else if f = 166 then some (.p fRepeat)
  else if f = 121 then some (.p fSorted)
  else if f = 65 then match c == 25 with
    | true => some (.g (gFresh 3))
    | false => some (.p (fFresh 3))
  else if f = 118 then some (.g (gFresh 4))
  else if f = 119 then match c == 58 with
    | true => some (.g (gFresh 1))
    | false => some (.p (fFresh 1))
  else none
def own7 (c f : FuncId) : Bool := [(25,64),(58,123),(10,22),(10,25),(193,248),(194,250)].contains (c, f)
def tab7 : Tab := { fs := [10,17,22,23,25,21,43,44,14,45,54,55,56,57,58,59,60,66,64,50,51,52,53,104,105,106,107,120,122,123,124,126,125,112,113,115,114,117,116,188,189,190,191,193,194,204,201,246,248,249,250,304,305,306,349,350,365,366], fuel := 400, own := own7, given := given7 }
theorem tab7_ok : tabOkay Tryz.prog tab7 = true := by kernel_rfl
theorem mixed7 : Tryz.prog.follows .mixedOrders = true := by kernel_rfl
theorem given7_ok : ∀ c f s, tab7.given c f = some s → Enters Tryz.prog f ∧ match s with | .p F => PSound Tryz.prog f F | .g G => GSound Tryz.prog f G := by
  intro c f s h
  change given7 c f = some s at h
  unfold given7 at h
  split at h
  · cases h; subst_vars; exact ⟨enters_of_B (by kernel_rfl), p192⟩
  split at h
  · cases h; subst_vars; exact ⟨enters_of_B (by kernel_rfl), p166⟩
  split at h
  · cases h; subst_vars; exact ⟨enters_of_B (by kernel_rfl), p121⟩
  split at h
  · split at h <;> (cases h; subst_vars)
    · exact ⟨enters_of_B (by kernel_rfl), r65.gsound⟩
    · exact ⟨enters_of_B (by kernel_rfl), r65.psound⟩
  split at h
  · cases h; subst_vars; exact ⟨enters_of_B (by kernel_rfl), r118.gsound⟩
  split at h
  · split at h <;> (cases h; subst_vars)
    · exact ⟨enters_of_B (by kernel_rfl), r119.gsound⟩
    · exact ⟨enters_of_B (by kernel_rfl), r119.psound⟩
  · cases h

theorem sane_run : runP Tryz.prog (gam Tryz.prog tab7 9 10) 400 10 [] = some (.val (.bool true)) := by kernel_rfl

/-- The contract of sane(). -/
def fSane : List PD → Option PD
  | [] => some (.val (.bool true))
  | _ => none
theorem sane_sound : PSound Tryz.prog 10 fSane := by
  have h := runP_sound mixed7 (gam_ok mixed7 tab7_ok given7_ok 9 10) (f := 10) (by kernel_rfl) 400
  intro I w ds xs r hr hI hx
  cases ds with
  | cons d ds => cases hr
  | nil => exact h I w [] xs r (by rw [sane_run]; exact hr) hI hx
end Go.Abs
