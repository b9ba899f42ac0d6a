/- The names of TreeLinks: each may be, no two are alike. No conditions. -/
import Derived.Test.YtccfimgpbmkpiaaBunchStart
namespace Go.Proofs.Ytccfimgpbmkpiaa
set_option linter.unusedVariables false
set_option linter.unusedSimpArgs false
set_option maxRecDepth 100000

/-- The names of TreeLinks. -/
def nS (k : Nat) : ByteArray := ⟨#[110, (48 + k).toUInt8]⟩
theorem nS_ok : ∀ k : Nat, k < 6 → nameOk (nS k) = true
  | 0, _ => by kernel_rfl
  | 1, _ => by kernel_rfl
  | 2, _ => by kernel_rfl
  | 3, _ => by kernel_rfl
  | 4, _ => by kernel_rfl
  | 5, _ => by kernel_rfl
  | _ + 6, h => absurd h (by omega)
theorem nS_inj {a b : Nat} (ha : a < 6) (hb : b < 6) (h : nS a = nS b) : a = b := by
  unfold nS at h
  injection h with h
  have h2 : (48 + a).toUInt8 = (48 + b).toUInt8 := by
    have := congrArg (fun l : Array UInt8 => l[1]?) h
    simpa using this
  have h3 := congrArg UInt8.toNat h2
  simp at h3
  omega
theorem nS_new {k : Nat} (hk : k < 6) : nS k ∉ (List.range k).map nS := by
  intro hm
  obtain ⟨m, hm, e⟩ := List.mem_map.1 hm
  have hlt : m < k := List.mem_range.1 hm
  have := nS_inj (by omega) hk e
  omega
end Go.Proofs.Ytccfimgpbmkpiaa
