/- Link and Remove on a file with many names: the calls. Conditions: the clock is at least 0 and below 2^61, at most 1000 names. -/
import Derived.Test.YtccfimgpbmkpiaaBunch
namespace Go.Proofs.Ytccfimgpbmkpiaa
set_option linter.unusedVariables false
set_option linter.unusedSimpArgs false
set_option maxRecDepth 100000
open Go.RowKit Go.MapKept

theorem bunch_link {w : World} {A : FSA} {ino : Int} {l : List ByteArray} {n : Nat} {c : Int} {base : Nat} (hA : FSAt w A) (h : Bunch A ino l n c base) {s : ByteArray} (hs : s ∉ l) (hok : nameOk s = true) (hc0 : 0 ≤ c) (hc1 : c < 2305843009213693952) (hl : l.length ≤ 1000) :
    Calls Try.prog 16 #[A.fp, .int .i64 1, .string s, .int .i64 ino] w fun e w' => ∃ A1, e = .returned (.int .i64 0) ∧ FSAt w' A1 ∧ Bunch A1 ino (l ++ [s]) n (c + 1) base ∧ A1.fb = A.fb ∧ Frm A.owns w w' := by
  obtain ⟨d, hd, d6, dn⟩ := h.root
  obtain ⟨x, hx, x1, xl, xn, xs, xp⟩ := h.file
  refine (link_ok hA hd d6 hok (by rw [dn]; exact look_names_none hs) hx (by rw [x1]; decide) (by rw [xl]; omega) (by rw [xl]; omega) (by rw [h.clock]; omega) (by rw [h.clock]; omega)).mono ?_
  rintro e w' ⟨rfl, nb, hnb, h1, hf⟩
  exact ⟨_, rfl, h1, h.link (w' := w') hA hs hd hx hnb, (linked_rest A d x nb s ino).1, hf⟩
theorem bunch_remove {w : World} {A : FSA} {ino : Int} {l : List ByteArray} {n : Nat} {c : Int} {base : Nat} (hA : FSAt w A) (h : Bunch A ino l n c base) {s : ByteArray} (hs : s ∈ l) (hl1 : l.length ≠ 1) (hok : nameOk s = true) (hc0 : 0 ≤ c) (hc1 : c < 2305843009213693952) (hl : l.length ≤ 1000) (hn : n ≤ 1000) :
    Calls Try.prog 18 #[A.fp, .int .i64 1, .string s] w fun e w' => ∃ A1, e = .returned (.int .i64 0) ∧ FSAt w' A1 ∧ Bunch A1 ino (rm s l) n (c + 1) base ∧ A1.fb = A.fb ∧ Frm A.owns w w' := by
  obtain ⟨d, hd, d6, dn⟩ := h.root
  obtain ⟨x, hx, x1, xl, xn, xs, xp⟩ := h.file
  have hpos := List.length_pos_of_mem hs
  refine (remove_ok hA hd d6 hok (by rw [dn]; exact look_names hs) hx xn (by rw [xl]; omega) (by rw [xl]; omega) (by rw [h.clock]; omega) (by rw [h.clock]; omega) (by omega) (by omega) (by rw [h.used]; omega) (by rw [h.used]; omega)).mono ?_
  rintro e w' ⟨rfl, nb, hnb, h1, hf⟩
  exact ⟨_, rfl, h1, h.remove hA hs hl1 hd hx hnb, (removed_rest1 A d x nb s ino (by rw [xl]; omega)).1, hf⟩
theorem bunch_last {w : World} {A : FSA} {ino : Int} {s : ByteArray} {n : Nat} {c : Int} {base : Nat} (hA : FSAt w A) (h : Bunch A ino [s] n c base) (hok : nameOk s = true) (hc0 : 0 ≤ c) (hc1 : c < 2305843009213693952) (hn : n ≤ 1000) :
    Calls Try.prog 18 #[A.fp, .int .i64 1, .string s] w fun e w' => ∃ A1, e = .returned (.int .i64 0) ∧ FSAt w' A1 ∧ A1.fb = A.fb ∧ Frm A.owns w w' ∧
      A1.above base ∧ A1.next = ino + 1 ∧ A1.nodes.map (·.1) = [1] ∧ A1.clock = c + 1 ∧ A1.used = 0 ∧ A1.node? ino = none ∧ ∃ d2, A1.node? 1 = some d2 ∧ d2.n.kind = 6 ∧ d2.names = [] := by
  obtain ⟨d, hd, d6, dn⟩ := h.root
  obtain ⟨x, hx, x1, xl, xn, xs, xp⟩ := h.file
  have xl1 : x.n.links = 1 := by rw [xl]; rfl
  refine (remove_ok hA hd d6 hok (by rw [dn]; exact look_names (List.mem_singleton.2 rfl)) hx xn (by omega) (by omega) (by rw [h.clock]; omega) (by rw [h.clock]; omega) (by omega) (by omega) (by rw [h.used]; omega) (by rw [h.used]; omega)).mono ?_
  rintro e w' ⟨rfl, nb, hnb, h1, hf⟩
  obtain ⟨b1, b2⟩ := h.last hA hd hx hnb
  exact ⟨_, rfl, h1, (removed_rest0 A d x nb s ino xl1).1, hf, b1, b2⟩
/-- A tree beside a row of another type that grows. -/
theorem FSAt.rowT {w w' : World} {A : FSA} (h : FSAt w A) {t0 : TypeId} (k1 : 75 ≠ t0) (k2 : 72 ≠ t0) (k3 : ¬ isData t0) {B : Nat} {v : Value} {n : Nat} {xs : List Value} (hr : w.ownsRow B t0 1 v n xs) (hg : w.grownBy w' v.ownBlock) : FSAt w' A := by
  refine h.keep (fun b hb => hg.block b (h.owns_lt hb) fun e => ?_) (fun g cs t fr ht hh => (hg.block g (heap_lt hh) fun e => ?_).trans hh)
  · obtain ⟨cs, hk⟩ := row_kind hr e.symm
    exact h.not_own b cs _ _ k1 k2 hk hb
  · obtain ⟨cs', hk⟩ := row_kind hr e.symm
    rw [hk] at hh
    injection hh with hh
    injection hh with _ e2 _
    subst e2
    exact k3 ht
theorem row_frmT {w w' : World} {A : FSA} (h : FSAt w A) {t0 : TypeId} (k1 : 75 ≠ t0) (k2 : 72 ≠ t0) {B : Nat} {v : Value} {n : Nat} {xs : List Value} (hr : w.ownsRow B t0 1 v n xs) (hf : Frm A.owns w w') : w'.ownsRow B t0 1 v n xs := by
  refine ⟨hr.1, ?_⟩
  rcases hr.2 with h2 | ⟨g, cap, cur, hv, hg, hh, r⟩
  · exact .inl h2
  · exact .inr ⟨g, cap, cur, hv, hg, (hf.blk g (heap_lt hh) (h.not_own g cur _ _ k1 k2 hh)).trans hh, r⟩
theorem string_row : 75 ≠ 9 ∧ 72 ≠ 9 ∧ ¬ isData 9 := by
  refine ⟨by decide, by decide, ?_⟩
  rintro (h | h)
  · exact absurd (show 9 = 5 from h) (by decide)
  · cases h
end Go.Proofs.Ytccfimgpbmkpiaa
