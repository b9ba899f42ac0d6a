/- The names of TreeFull: each may be, no two are alike. No conditions. -/
import Derived.Test.YtccfimgpbmkpiaaDigits
import Derived.Test.YtccfimgpbmkpiaaStr
namespace Go.Proofs.Ytccfimgpbmkpiaa
set_option linter.unusedVariables false
set_option linter.unusedSimpArgs false
set_option maxRecDepth 100000

def valD (l : List UInt8) : Nat := l.foldl (fun a c => a * 10 + (c.toNat - 48)) 0
theorem valD_snoc (l : List UInt8) (c : UInt8) : valD (l ++ [c]) = valD l * 10 + (c.toNat - 48) := by unfold valD; simp
theorem digit_val {k : Nat} (h : k ≤ 9) : ((48 + k).toUInt8).toNat = 48 + k := by simp; omega
theorem valD_dg (n : Nat) : valD (dg n) = n := by
  induction n using Nat.strongRecOn with
  | ind n ih =>
    by_cases h : n ≤ 9
    · rw [dg_small h]
      show 0 * 10 + (((48 + n).toUInt8).toNat - 48) = n
      rw [digit_val h]; omega
    · rw [dg_big (by omega), valD_snoc, ih (n / 10) (by omega), digit_val (by omega)]
      omega
theorem dg_inj {a b : Nat} (h : dg a = dg b) : a = b := by rw [← valD_dg a, ← valD_dg b, h]
theorem dg_mem (n : Nat) : ∀ c ∈ dg n, 48 ≤ c.toNat ∧ c.toNat ≤ 57 := by
  induction n using Nat.strongRecOn with
  | ind n ih =>
    intro c hc
    by_cases h : n ≤ 9
    · rw [dg_small h] at hc
      obtain rfl := List.mem_singleton.1 hc
      rw [digit_val h]; omega
    · rw [dg_big (by omega)] at hc
      rcases List.mem_append.1 hc with hc | hc
      · exact ih (n / 10) (by omega) c hc
      · obtain rfl := List.mem_singleton.1 hc
        rw [digit_val (by omega)]; omega
theorem dg_ne (n : Nat) : dg n ≠ [] := by
  by_cases h : n ≤ 9
  · rw [dg_small h]; simp
  · rw [dg_big (by omega)]; simp

/-- A letter and a number. -/
def numS (c : UInt8) (i : Nat) : ByteArray := ⟨#[c]⟩ ++ ⟨(dg i).toArray⟩
theorem numS_data (c : UInt8) (i : Nat) : (numS c i).data.toList = c :: dg i := by unfold numS; rw [data_append]; rfl
theorem numS_inj {c : UInt8} {a b : Nat} (h : numS c a = numS c b) : a = b := by
  have := congrArg (fun s : ByteArray => s.data.toList) h
  simp only [numS_data] at this
  exact dg_inj (List.cons.inj this).2
theorem numS_size (c : UInt8) (i : Nat) : (numS c i).size = 1 + (dg i).length := by
  have : (numS c i).size = (numS c i).data.toList.length := rfl
  rw [this, numS_data]; simp; omega
theorem index_none1 {c : UInt8} : ∀ {l : List UInt8}, c ∉ l → Lib.indexByte l c = -1
  | [], _ => rfl
  | b :: l, h => by
    have h1 : (b == c) = false := beq_eq_false_iff_ne.2 fun e => h (e ▸ List.mem_cons_self)
    have h2 := index_none1 (l := l) fun hm => h (List.mem_cons_of_mem _ hm)
    simp [Lib.indexByte, h1, h2]
theorem index_none {l : List UInt8} {c : UInt8} (h : c ∉ l) : Lib.indexByte l c < 0 := by
  rw [index_none1 h]; omega
theorem numS_ok {c : UInt8} (hc : c = 110 ∨ c = 108) {i : Nat} (hi : i < 4611686018427387904) : nameOk (numS c i) = true := by
  have hl := dg_len19 hi
  have hn : 0 < (dg i).length := List.length_pos_iff.2 (dg_ne i)
  have hs := numS_size c i
  have hd : (numS c i).toList = c :: dg i := by rw [ByteArray.toList_eq]; exact numS_data c i
  have h0 : (0 : UInt8) ∉ (numS c i).data.toList := by
    rw [numS_data]
    intro hm
    rcases List.mem_cons.1 hm with e | hm
    · rcases hc with rfl | rfl <;> exact absurd e (by decide)
    · have := dg_mem i _ hm
      simp at this
  have h47 : (47 : UInt8) ∉ (numS c i).data.toList := by
    rw [numS_data]
    intro hm
    rcases List.mem_cons.1 hm with e | hm
    · rcases hc with rfl | rfl <;> exact absurd e (by decide)
    · have := dg_mem i _ hm
      simp at this
  have e1 : ((numS c i).toList == [46]) = false := by rw [hd]; rcases hc with rfl | rfl <;> simp
  have e2 : ((numS c i).toList == [46, 46]) = false := by rw [hd]; rcases hc with rfl | rfl <;> simp
  unfold nameOk
  rw [e1, e2, decide_eq_true (index_none h0), decide_eq_true (index_none h47), decide_eq_true (by omega)]
  rfl
end Go.Proofs.Ytccfimgpbmkpiaa
