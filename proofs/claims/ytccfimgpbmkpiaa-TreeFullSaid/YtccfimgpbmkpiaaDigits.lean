/- ref13.Digits: the decimal digits. No conditions. -/
import Derived.Test.YtccfimgpbmkpiaaStr
import Derived.Laws.IdiomStrings
import Derived.Lib.Hide
namespace Go.Proofs.Ytccfimgpbmkpiaa
set_option linter.unusedVariables false
set_option linter.unusedSimpArgs false
set_option maxRecDepth 100000
open Go.RowKit

/-- The digits of a number. -/
def dg (n : Nat) : List UInt8 := if h : n ≤ 9 then [(48 + n).toUInt8] else dg (n / 10) ++ [(48 + n % 10).toUInt8]
termination_by n
decreasing_by omega
theorem dg_small {n : Nat} (h : n ≤ 9) : dg n = [(48 + n).toUInt8] := by rw [dg, dif_pos h]
theorem dg_big {n : Nat} (h : 9 < n) : dg n = dg (n / 10) ++ [(48 + n % 10).toUInt8] := by rw [dg, dif_neg (by omega)]

def ten : ByteArray := ⟨#[48, 49, 50, 51, 52, 53, 54, 55, 56, 57]⟩
/-- One digit. -/
def chr (k : Nat) : ByteArray := ⟨#[(48 + k).toUInt8]⟩
theorem ten_chr {k : Nat} (h : k ≤ 9) : ten.extract k (k + 1) = chr k := by
  have : k = 0 ∨ k = 1 ∨ k = 2 ∨ k = 3 ∨ k = 4 ∨ k = 5 ∨ k = 6 ∨ k = 7 ∨ k = 8 ∨ k = 9 := by omega
  rcases this with rfl | rfl | rfl | rfl | rfl | rfl | rfl | rfl | rfl | rfl <;> rfl

theorem dg_length : ∀ (k n : Nat), n < 10 ^ (k + 1) → (dg n).length ≤ k + 1
  | 0, n, h => by rw [dg_small (by simpa using Nat.le_of_lt_succ (by simpa using h))]; simp
  | k + 1, n, h => by
    by_cases h9 : n ≤ 9
    · rw [dg_small h9]; simp
    · rw [dg_big (by omega), List.length_append]
      have := dg_length k (n / 10) (by rw [Nat.div_lt_iff_lt_mul (by omega)]; rw [Nat.pow_succ] at h; exact h)
      simp; omega
theorem dg_len19 {n : Nat} (h : n < 4611686018427387904) : (dg n).length ≤ 19 := dg_length 18 n (by omega)
theorem chr_size (k : Nat) : (chr k).size = 1 := rfl
theorem str_ext {a b : ByteArray} (h : a.data.toList = b.data.toList) : a = b := by
  cases a with | mk x => cases b with | mk y => cases x; cases y; cases h; rfl
theorem data_append (a b : ByteArray) : (a ++ b).data.toList = a.data.toList ++ b.data.toList := by simp

theorem empty_append (a : ByteArray) : ({ data := #[] } : ByteArray) ++ a = a := str_ext (by rw [data_append]; rfl)

theorem digit_slice {k : Nat} (h : k ≤ 9) (w : World) : (Instr.slice 9 (.string ⟨#[48, 49, 50, 51, 52, 53, 54, 55, 56, 57]⟩) (some (.int .i64 (k : Int))) (some (.int .i64 ((k : Int) + 1))) none).run Try.prog w = .ok (.string (chr k)) w := by
  have := run_slice_string (P := Try.prog) (w := w) 9 ten .i64 .i64 (k : Int) ((k : Int) + 1) Try.underlying9 (by omega) (by omega) (by show (k : Int) + 1 ≤ 10; omega)
  rw [show ((k : Int)).toNat = k by omega, show ((k : Int) + 1).toNat = k + 1 by omega, ten_chr h] at this
  exact this

theorem digits_nat {w : World} (N : Nat) (hN : N < 4611686018427387904) :
    Calls Try.prog 24 #[.int .i64 (N : Int)] w fun e w' => e = .returned (.string ⟨(dg N).toArray⟩) ∧ Below w.heap.size w w' := by
  go_enter Try.func24, Try.ntmps24
  have h0 : ¬ (N : Int) < 0 := by omega
  have hw : IntKind.u64.wrap (N : Int) = (N : Int) := by rw [IntKind.wrap_u64]; omega
  go_wp2_with fail
  go_loopw [3, 4] (fun u s wr => ∃ (v : Nat) (S : ByteArray), v < 4611686018427387904 ∧ u = .int .u64 v ∧ s = .string S ∧ dg v ++ S.data.toList = dg N ∧ Below w.heap.size w wr) (fun u _ _ => (intOf u).toNat)
  case atStart => exact ⟨N, ⟨#[]⟩, hN, rfl, rfl, by simp, Below.refl _ _⟩
  case round =>
    obtain ⟨v, S, hv, rfl, rfl, hS, hb⟩ := hrel
    have hlen := congrArg List.length hS
    rw [List.length_append] at hlen
    have hdl := dg_len19 hN
    have hsz : S.size = S.data.toList.length := rfl
    have hsl20 : S.size ≤ 19 := by omega
    have HS := Lib.hid hS
    clear hlen hdl hsz hS
    by_cases h9 : 9 < v
    · have h9' : (9 : Int) < (v : Int) := by omega
      obtain ⟨K, hK⟩ : ∃ K : Nat, K = v % 10 := ⟨_, rfl⟩
      obtain ⟨D, hD⟩ : ∃ D : Nat, D = v / 10 := ⟨_, rfl⟩
      have hKi : (v : Int) % 10 = (K : Int) := by omega
      have hDi : (v : Int) / 10 = (D : Int) := by omega
      have hDv : D < v := by omega
      have hK9 : K ≤ 9 := by omega
      have hsl := digit_slice hK9
      obtain ⟨C, hC⟩ : ∃ C : ByteArray, C = chr K := ⟨_, rfl⟩
      rw [← hC] at hsl
      have hadd : ¬ 9223372036854775807 < C.size + S.size := by rw [hC, chr_size]; omega
      have H := Lib.hid (And.intro hK (And.intro hD hC))
      clear hK hD hC
      go_wp2_with fail
      go_roundw
      case rel => exact ⟨D, C ++ S, by omega, rfl, rfl, by rw [data_append, ← HS.out, dg_big h9, H.out.2.2, H.out.1, H.out.2.1]; simp [chr], hb⟩
      case measure => simp [intOf]; omega
    · have h9' : ¬ (9 : Int) < (v : Int) := by omega
      have hsl := digit_slice (k := v) (by omega)
      obtain ⟨C, hC⟩ : ∃ C : ByteArray, C = chr v := ⟨_, rfl⟩
      rw [← hC] at hsl
      have hadd : ¬ 9223372036854775807 < C.size + S.size := by rw [hC, chr_size]; omega
      have hadd2 : ¬ 9223372036854775807 < (({ data := #[] } : ByteArray) ++ C).size + S.size := by rw [empty_append]; exact hadd
      have hadd3 : ¬ 9223372036854775807 < C.size := by omega
      have HC := Lib.hid hC
      clear hC
      go_wp2_with fail
      go_ret
      refine ⟨?_, hb⟩
      rw [show (⟨(dg N).toArray⟩ : ByteArray) = C ++ S from (str_ext (by rw [data_append, ← HS.out, HC.out, dg_small (by omega)]; rfl)).symm]
      rfl
end Go.Proofs.Ytccfimgpbmkpiaa
