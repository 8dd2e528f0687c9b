/- The file of the chapter's example: plain. -/
import Derived.Test.YtikpkjpnehkbfaaGreatDoorNormClean
namespace Go.Proofs.YtikpkjpnehkbfaaGreatDoor.Nm
set_option linter.unusedVariables false
open Go.Proofs.YtikpkjpnehkbfaaGreatDoor.Sp

def smallText : Bytes := [99, 108, 97, 115, 115, 32, 48, 51, 48, 48, 46, 46, 48, 51, 48, 52, 32, 50, 51, 48, 10, 99, 108, 97, 115, 115, 32, 48, 51, 48, 50, 32, 48, 10, 99, 108, 97, 115, 115, 32, 48, 51, 50, 55, 32, 50, 48, 50, 10, 100, 101, 99, 111, 109, 112, 32, 48, 48, 67, 48, 32, 48, 48, 52, 49, 32, 48, 51, 48, 48, 10, 100, 101, 99, 111, 109, 112, 32, 49, 69, 65, 54, 32, 48, 48, 67, 48, 32, 48, 51, 48, 49, 10, 100, 101, 99, 111, 109, 112, 32, 48, 48, 67, 53, 32, 48, 48, 52, 49, 32, 48, 51, 48, 48, 10]
def smallD : PD := { classes := [⟨768, 772, 230⟩, ⟨770, 770, 0⟩, ⟨807, 807, 202⟩], decomps := [(192, [65, 768]), (7846, [192, 769]), (197, [65, 768])] }
theorem small_lines : doLines {} (pieces 10 smallText) 1 = .ok { d := smallD, lines := [(192, 4), (7846, 5), (197, 6)] } := by rfl
theorem small_parse : parse smallText = .ok smallD := by
  unfold parse
  rw [if_neg (by decide), small_lines]
  have hb : badLeast { d := smallD, lines := [(192, 4), (7846, 5), (197, 6)] } = none := badLeast_none (fun p hp => by
    simp only [List.mem_cons, List.not_mem_nil, or_false] at hp
    rcases hp with rfl | rfl | rfl
    · exact badOf_none (n := 2) ⟨3, by rfl⟩ (by decide)
    · exact badOf_none (n := 3) ⟨4, by rfl⟩ (by decide)
    · exact badOf_none (n := 2) ⟨3, by rfl⟩ (by decide))
  simp only [hb]
theorem small_dec : decN smallD [7846, 807] = [65, 807, 768, 769] := by decide +kernel
theorem small_comp : compN smallD [65, 807, 768] = [192, 807] := by decide +kernel
theorem small_write : decN smallD [65, 768] = [65, 768] ∧ settled (classOf smallD) [65, 768] = 1 := by decide +kernel
theorem small_text : textOf (decN smallD (ptsOf [195, 128])) = [65, 204, 128] := by decide +kernel
theorem small_cut : classOf smallD 66 = 0 ∧ wholeOf smallD 66 = [66] ∧ classOf smallD 768 = 230 ∧ wholeOf smallD 768 = [768] := by decide +kernel
end Go.Proofs.YtikpkjpnehkbfaaGreatDoor.Nm
