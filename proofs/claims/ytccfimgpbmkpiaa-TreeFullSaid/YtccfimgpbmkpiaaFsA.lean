/- The calls of *tree.FS that only read: Root, Used, Clock, Stat, place, Find, file: what they return at a known state; nothing that was there has turned. No conditions. -/
import Derived.Test.YtccfimgpbmkpiaaFs
import Derived.Test.YtccfimgpbmkpiaaStr
import Derived.Lib.Hide
namespace Go.Proofs.Ytccfimgpbmkpiaa
set_option linter.unusedVariables false
set_option linter.unusedSimpArgs false
set_option maxRecDepth 100000
open Go.RowKit

section
variable {w : World} {A : FSA}

theorem root_any (A : FSA) (w : World) : Calls Try.prog 31 #[A.fp] w fun e w' => e = .returned (.int .i64 1) ∧ w = w' := by
  go_enter Try.func31, Try.ntmps31
  go_wp2
  go_ret
  exact ⟨rfl, rfl⟩
theorem used_any (h : FSAt w A) : Calls Try.prog 17 #[A.fp] w fun e w' => e = .returned (.int .i64 A.used) ∧ w = w' := by
  have hc := h.c
  unfold FSA.fp
  go_enter Try.func17, Try.ntmps17
  go_wp2
  go_ret
  exact ⟨rfl, rfl⟩
theorem clock_any (h : FSAt w A) : Calls Try.prog 10 #[A.fp] w fun e w' => e = .returned (.int .i64 A.clock) ∧ w = w' := by
  have hc := h.c
  unfold FSA.fp
  go_enter Try.func10, Try.ntmps10
  go_wp2
  go_ret
  exact ⟨rfl, rfl⟩

def ANode.zero : ANode := ⟨0, 0, 0, 0, 0, ⟨#[]⟩, 0, 0, 0, 0, 0⟩
/-- Stat. -/
def FSA.stat (A : FSA) (i : Int) : ANode × Int := match A.node? i with | some r => (r.n, 0) | none => (ANode.zero, 10)

theorem stat_any (h : FSAt w A) (i : Int) : Calls Try.prog 14 #[A.fp, .int .i64 i] w fun e w' => e = .returned (.tuple #[(A.stat i).1.val, .int .i64 (A.stat i).2]) ∧ Below w.heap.size w w' := by
  unfold FSA.stat FSA.fp
  cases hr : A.node? i with
  | none =>
    have hfb := h.fs.lt
    have hc := h.c
    have hl : ∀ o, (Instr.lookup 73 (.map (some A.mb)) (.int .i64 i) false).run Try.prog (w.alloc o) = .ok (.pointer none) (w.alloc o) := fun o => (h.below ((Below.refl _ _).alloc (Nat.le_refl _) o)).look_none hr
    clear hr h
    go_enter Try.func14, Try.ntmps14
    go_wp2
    exact bodyPost_ret (v := .tuple #[ANode.zero.val, .int .i64 10]) (by simp [results, Try.results14, go_sem, ANode.val, ANode.zero]) rfl ⟨rfl, (Below.refl _ _).alloc (Nat.le_refl _) _⟩
  | some r =>
    have hfb := h.fs.lt
    have hc := h.c
    have hnb := (h.at_ hr).blk.lt
    have hn := (h.at_ hr).c
    have hl : ∀ o, (Instr.lookup 73 (.map (some A.mb)) (.int .i64 i) false).run Try.prog (w.alloc o) = .ok (.pointer (some ⟨r.blk, 0, none⟩)) (w.alloc o) := fun o => (h.below ((Below.refl _ _).alloc (Nat.le_refl _) o)).look_some hr
    clear hr h
    go_enter Try.func14, Try.ntmps14
    go_wp2
    exact bodyPost_ret (v := .tuple #[r.n.val, .int .i64 0]) (by simp [results, Try.results14, go_sem, ANode.val]) rfl ⟨rfl, (Below.refl _ _).alloc (Nat.le_refl _) _⟩

/-- place: the error of a directory and a part. -/
def FSA.placeErr (A : FSA) (dir : Int) (part : ByteArray) : Int :=
  match A.node? dir with
  | none => 10
  | some r => if r.n.kind ≠ 6 then 12 else if nameOk part then 0 else 9
def FSA.placePtr (A : FSA) (dir : Int) (part : ByteArray) : Value :=
  match A.node? dir with
  | none => .pointer none
  | some r => if r.n.kind ≠ 6 then .pointer none else if nameOk part then .pointer (some ⟨r.blk, 0, none⟩) else .pointer none

set_option maxRecDepth 100000 in
theorem place_any (h : FSAt w A) (dir : Int) (part : ByteArray) :
    Calls Try.prog 26 #[A.fp, .int .i64 dir, .string part] w fun e w' => e = .returned (.tuple #[A.placePtr dir part, .int .i64 (A.placeErr dir part)]) ∧ w = w' := by
  unfold FSA.placePtr FSA.placeErr FSA.fp
  have hc := h.c
  cases hr : A.node? dir with
  | none =>
    have hl := h.look_none hr
    clear hr h
    go_enter Try.func26, Try.ntmps26
    go_wp2
    go_ret2
    exact ⟨rfl, rfl⟩
  | some r =>
    have hl := h.look_some hr
    have hn := (h.at_ hr).c
    clear hr h
    by_cases hk : r.n.kind = 6
    · have hk' : (r.n.kind == 6) = true := beq_iff_eq.2 hk
      have Hk := Lib.hid hk
      clear hk
      cases ho : nameOk part with
      | true =>
        have Ho := Lib.hid ho
        clear ho
        go_enter Try.func26, Try.ntmps26
        go_wp2_with (go_at_call 29; refine (ok_any _ _).mono ?_; rintro e w' ⟨rfl, rfl⟩; rw [Ho.out])
        go_ret2
        exact ⟨by simp [Hk.out], rfl⟩
      | false =>
        have Ho := Lib.hid ho
        clear ho
        go_enter Try.func26, Try.ntmps26
        go_wp2_with (go_at_call 29; refine (ok_any _ _).mono ?_; rintro e w' ⟨rfl, rfl⟩; rw [Ho.out])
        go_ret2
        exact ⟨by simp [Hk.out], rfl⟩
    · have hk' : (r.n.kind == 6) = false := beq_eq_false_iff_ne.2 hk
      have Hk := Lib.hid hk
      clear hk
      go_enter Try.func26, Try.ntmps26
      go_wp2_with fail
      go_ret2
      exact ⟨by simp [Hk.out], rfl⟩

theorem place_ok (h : FSAt w A) {dir : Int} {part : ByteArray} {r : NodeR} (hr : A.node? dir = some r) (hk : r.n.kind = 6) (ho : nameOk part = true) :
    Calls Try.prog 26 #[A.fp, .int .i64 dir, .string part] w fun e w' => e = .returned (.tuple #[.pointer (some ⟨r.blk, 0, none⟩), .int .i64 0]) ∧ w = w' := by
  refine (place_any h dir part).mono ?_
  rintro e w' ⟨rfl, rfl⟩
  refine ⟨?_, rfl⟩
  simp [FSA.placePtr, FSA.placeErr, hr, hk, ho]
theorem place_bad (h : FSAt w A) {dir : Int} {part : ByteArray} (hr : A.placeErr dir part ≠ 0) :
    Calls Try.prog 26 #[A.fp, .int .i64 dir, .string part] w fun e w' => e = .returned (.tuple #[.pointer none, .int .i64 (A.placeErr dir part)]) ∧ w = w' := by
  refine (place_any h dir part).mono ?_
  rintro e w' ⟨rfl, rfl⟩
  refine ⟨?_, rfl⟩
  have : A.placePtr dir part = .pointer none := by
    revert hr
    unfold FSA.placePtr FSA.placeErr
    split
    · simp
    · split
      · simp
      · split <;> simp
  rw [this]
/-- What a place that may be asked is. -/
theorem placeErr_zero {dir : Int} {part : ByteArray} (h : A.placeErr dir part = 0) : ∃ r, A.node? dir = some r ∧ r.n.kind = 6 ∧ nameOk part = true := by
  revert h
  unfold FSA.placeErr
  split
  · simp
  · rename_i r hr
    split
    · simp
    · rename_i hk
      split
      · rename_i ho; exact fun _ => ⟨r, hr, by simpa using hk, ho⟩
      · simp

theorem NodeAt.nm_of {r : NodeR} (h : NodeAt w r) (hk : r.n.kind = 6) : ∃ b, r.nm = some b := Option.isSome_iff_exists.1 (h.dir.2 hk)

/-- Find. -/
def FSA.find (A : FSA) (dir : Int) (part : ByteArray) : Int × Int :=
  if A.placeErr dir part ≠ 0 then (0, A.placeErr dir part) else
  match A.node? dir with
  | none => (0, 10)
  | some r => match look r.names part with
    | some i => (i, 0)
    | none => (0, 10)

set_option maxRecDepth 100000 in
theorem find_any (h : FSAt w A) (dir : Int) (part : ByteArray) :
    Calls Try.prog 13 #[A.fp, .int .i64 dir, .string part] w fun e w' => e = .returned (.tuple #[.int .i64 (A.find dir part).1, .int .i64 (A.find dir part).2]) ∧ w = w' := by
  by_cases he : A.placeErr dir part = 0
  · obtain ⟨r, hr, hk, ho⟩ := placeErr_zero he
    have hn := h.at_ hr
    obtain ⟨b, hb⟩ := hn.nm_of hk
    have hnc := hn.c
    rw [hb] at hnc
    have hl := hn.lookup hb part true
    have cP := place_ok h hr hk ho
    unfold FSA.fp at *
    cases hf : look r.names part with
    | none =>
      rw [show A.find dir part = (0, 10) by simp [FSA.find, he, hr, hf]]
      simp only [hf, if_true, Option.getD_none, Option.isSome_none] at hl
      clear he hr hk ho hn hb hf h
      go_enter Try.func13, Try.ntmps13
      go_wp2_with (go_at_call 26; refine cP.mono ?_; rintro e w' ⟨rfl, rfl⟩)
      go_ret2
      exact ⟨rfl, rfl⟩
    | some i =>
      rw [show A.find dir part = (i, 0) by simp [FSA.find, he, hr, hf]]
      simp only [hf, if_true, Option.getD_some, Option.isSome_some] at hl
      clear he hr hk ho hn hb hf h
      go_enter Try.func13, Try.ntmps13
      go_wp2_with (go_at_call 26; refine cP.mono ?_; rintro e w' ⟨rfl, rfl⟩)
      go_ret2
      exact ⟨rfl, rfl⟩
  · have cP := place_bad h he
    unfold FSA.find
    rw [if_pos he]
    have hz : (A.placeErr dir part == 0) = false := beq_eq_false_iff_ne.2 he
    unfold FSA.fp at *
    generalize A.placeErr dir part = x at *
    have Hz := Lib.hid he
    clear he h
    have hz' : (x != 0) = true := by simp [Hz.out]
    go_enter Try.func13, Try.ntmps13
    go_wp2_with (go_at_call 26; refine cP.mono ?_; rintro e w' ⟨rfl, rfl⟩)
    go_ret2
    exact ⟨rfl, rfl⟩

/-- file: the error of a node that is asked for as a file. -/
def FSA.fileErr (A : FSA) (i : Int) : Int := match A.node? i with | none => 10 | some r => if r.n.kind ≠ 1 then 13 else 0
def FSA.filePtr (A : FSA) (i : Int) : Value := match A.node? i with | none => .pointer none | some r => if r.n.kind ≠ 1 then .pointer none else .pointer (some ⟨r.blk, 0, none⟩)

theorem file_any (h : FSAt w A) (i : Int) :
    Calls Try.prog 32 #[A.fp, .int .i64 i] w fun e w' => e = .returned (.tuple #[A.filePtr i, .int .i64 (A.fileErr i)]) ∧ w = w' := by
  unfold FSA.filePtr FSA.fileErr FSA.fp
  have hc := h.c
  cases hr : A.node? i with
  | none =>
    have hl := h.look_none hr
    clear hr h
    go_enter Try.func32, Try.ntmps32
    go_wp2
    go_ret2
    exact ⟨rfl, rfl⟩
  | some r =>
    have hl := h.look_some hr
    have hn := (h.at_ hr).c
    clear hr h
    by_cases hk : r.n.kind = 1
    · have hk' : (r.n.kind == 1) = true := beq_iff_eq.2 hk
      have Hk := Lib.hid hk
      clear hk
      go_enter Try.func32, Try.ntmps32
      go_wp2
      go_ret2
      exact ⟨by simp [Hk.out], rfl⟩
    · have hk' : (r.n.kind == 1) = false := beq_eq_false_iff_ne.2 hk
      have Hk := Lib.hid hk
      clear hk
      go_enter Try.func32, Try.ntmps32
      go_wp2
      go_ret2
      exact ⟨by simp [Hk.out], rfl⟩
theorem file_ok (h : FSAt w A) {i : Int} {r : NodeR} (hr : A.node? i = some r) (hk : r.n.kind = 1) :
    Calls Try.prog 32 #[A.fp, .int .i64 i] w fun e w' => e = .returned (.tuple #[.pointer (some ⟨r.blk, 0, none⟩), .int .i64 0]) ∧ w = w' := by
  refine (file_any h i).mono ?_
  rintro e w' ⟨rfl, rfl⟩
  exact ⟨by simp [FSA.filePtr, FSA.fileErr, hr, hk], rfl⟩
theorem file_bad (h : FSAt w A) {i : Int} (hr : A.fileErr i ≠ 0) :
    Calls Try.prog 32 #[A.fp, .int .i64 i] w fun e w' => e = .returned (.tuple #[.pointer none, .int .i64 (A.fileErr i)]) ∧ w = w' := by
  refine (file_any h i).mono ?_
  rintro e w' ⟨rfl, rfl⟩
  refine ⟨?_, rfl⟩
  have : A.filePtr i = .pointer none := by
    revert hr
    unfold FSA.filePtr FSA.fileErr
    split
    · simp
    · split <;> simp
  rw [this]
theorem fileErr_zero {i : Int} (h : A.fileErr i = 0) : ∃ r, A.node? i = some r ∧ r.n.kind = 1 := by
  revert h
  unfold FSA.fileErr
  split
  · simp
  · rename_i r hr
    split
    · simp
    · rename_i hk; exact fun _ => ⟨r, hr, by simpa using hk⟩
end
end Go.Proofs.Ytccfimgpbmkpiaa
