/- TreeLinks' second loop: what holds at its head. No conditions. -/
import Derived.Test.YtccfimgpbmkpiaaRows2
import Derived.Test.YtccfimgpbmkpiaaNames
namespace Go.Proofs.Ytccfimgpbmkpiaa
set_option linter.unusedVariables false
set_option linter.unusedSimpArgs false
set_option maxRecDepth 100000
open Go.RowKit Go.MapKept

/-- The file is gone. -/
structure Gone (A : FSA) (c : Int) (base : Nat) : Prop where
  above : A.above base
  next : A.next = 3
  keys : A.nodes.map (·.1) = [1]
  clock : A.clock = c
  used : A.used = 0
  none_ : A.node? 2 = none
  root : ∃ d, A.node? 1 = some d ∧ d.n.kind = 6 ∧ d.names = []
theorem Gone.makeErr {A : FSA} {c : Int} {base : Nat} (h : Gone A c base) : A.makeErr 1 n0 ⟨1, 0, 0, 0, 0, ⟨#[]⟩, 0, 0, 0, 0, 0⟩ = 0 := by
  obtain ⟨d, hd, h6, hn⟩ := h.root
  have hl : A.nodes.length = 1 := by have := congrArg List.length h.keys; simpa using this
  have hok : nameOk n0 = true := by kernel_rfl
  have hnb : nodeB 1 0 0 0 ⟨#[]⟩ 0 0 0 0 0 = true := by kernel_rfl
  simp [FSA.makeErr, FSA.placeErr, hd, h6, hok, hnb, hn, look_nil, hl]
theorem Gone.make {w w0 : World} {A : FSA} {c : Int} {base : Nat} (hA : FSAt w A) (h : Gone A c base) (hb : Below base w0 w) (hs : base ≤ w0.heap.size) (hc0 : 0 ≤ c) (hc1 : c < 1000) :
    Calls Try.prog 9 #[A.fp, .int .i64 1, .string n0, (⟨1, 0, 0, 0, 0, ⟨#[]⟩, 0, 0, 0, 0, 0⟩ : ANode).val] w fun e w' => e = .returned (.tuple #[.int .i64 3, .int .i64 0]) ∧ Below base w0 w' ∧ (∃ A1, FSAt w' A1 ∧ A1.fb = A.fb ∧ A1.used = 0) := by
  obtain ⟨db, hm⟩ := make_ok hA 1 n0 ⟨1, 0, 0, 0, 0, ⟨#[]⟩, 0, 0, 0, 0, 0⟩ h.makeErr (by
    intro p hp
    have : p.1 ∈ A.nodes.map (·.1) := List.mem_map.2 ⟨p, hp, rfl⟩
    rw [h.keys] at this
    have := List.mem_singleton.1 this
    rw [this, h.next]; omega) (by rw [h.next]; omega) (by rw [h.next]; omega) (by rw [h.clock]; omega) (by rw [h.clock]; omega)
  refine hm.mono ?_
  rintro e w' ⟨rfl, nb, xb, xm, h1, hx1, hx2, hx3, hr, hf⟩
  obtain ⟨a1, a2, a3, a4, a5, a6⟩ := made_rest A 1 n0 ⟨1, 0, 0, 0, 0, ⟨#[]⟩, 0, 0, 0, 0, 0⟩ db nb xb xm
  exact ⟨by rw [h.next], h.above.frm hf hb hs, _, h1, a1, a4.trans h.used⟩
theorem Gone.stat {A : FSA} {c : Int} {base : Nat} (h : Gone A c base) : A.stat 2 = (ANode.zero, 10) := by simp [FSA.stat, h.none_]

/-- How long a slice is. -/
def lenOf (v : Value) : Nat := match v with | .slice _ n _ => n | _ => 0

structure LeftRel (w : World) (fb dn : Nat) (v : Value) (wr : World) (l : List ByteArray) (A : FSA) (c : Int) : Prop where
  names : ∀ s ∈ l, nameOk s = true
  len : l.length ≤ 6
  fs : FSAt wr A
  fb : A.fb = fb
  c0 : 0 ≤ c
  c1 : c + l.length ≤ 20
  bunch : 0 < l.length → Bunch A 2 l dn c w.heap.size
  gone : l.length = 0 → Gone A c w.heap.size
  row : wr.ownsRow w.heap.size 9 1 v l.length (svals l)
  below : Below w.heap.size w wr

theorem Bunch.stat {A : FSA} {ino : Int} {l : List ByteArray} {n : Nat} {c : Int} {base : Nat} (h : Bunch A ino l n c base) : ∃ x : ANode, A.stat ino = (x, 0) ∧ x.links = l.length := by
  obtain ⟨x, hx, _, h2, _⟩ := h.file
  exact ⟨x.n, by simp [FSA.stat, hx], h2⟩
theorem Bunch.find {A : FSA} {ino : Int} {l : List ByteArray} {n : Nat} {c : Int} {base : Nat} (h : Bunch A ino l n c base) {s : ByteArray} (hs : s ∈ l) (hok : nameOk s = true) : A.find 1 s = (ino, 0) := by
  obtain ⟨d, hd, d6, dn⟩ := h.root
  simp [FSA.find, FSA.placeErr, hd, d6, hok, dn, look_names hs]

/-- Remove, whether it is the last name or not. -/
theorem left_remove {w wr wx : World} {fb dn : Nat} {v : Value} {l : List ByteArray} {A : FSA} {c : Int} (h : LeftRel w fb dn v wr l A c) (hx : FSAt wx A) (hb : Below w.heap.size w wx) (hr : wx.ownsRow w.heap.size 9 1 v l.length (svals l)) {k : Nat} (hk : k < l.length) (hdn : dn ≤ 1000) :
    Calls Try.prog 18 #[.pointer (some ⟨fb, 0, none⟩), .int .i64 1, .string l[k]] wx fun e w' => e = .returned (.int .i64 0) ∧ wx.heap.size ≤ w'.heap.size ∧ w'.ownsRow w.heap.size 9 1 v l.length (svals l) ∧ ∃ A1, FSAt w' A1 ∧ A1.fb = fb ∧ Below w.heap.size w w' ∧
      (1 < l.length → Bunch A1 2 (l.take k ++ l.drop (k + 1)) dn (c + 1) w.heap.size) ∧ (l.length = 1 → Gone A1 (c + 1) w.heap.size) := by
  have hB := h.bunch (by omega)
  have hmem : l[k] ∈ l := List.getElem_mem hk
  have hok := h.names _ hmem
  have e := rm_erase hB.nodup hk
  by_cases h1 : l.length = 1
  · obtain ⟨s, rfl⟩ := List.length_eq_one_iff.1 h1
    obtain rfl : k = 0 := by simpa using hk
    have := bunch_last hx hB hok h.c0 (by have := h.c1; omega) hdn
    unfold FSA.fp at this
    rw [h.fb] at this
    refine this.mono ?_
    rintro e w' ⟨A1, rfl, h1, h2, hf, g1, g2, g3, g4, g5, g6, g7⟩
    exact ⟨rfl, hf.size, row_frmT hx string_row.1 string_row.2.1 hr hf, A1, h1, h2, hB.above.frm hf hb (Nat.le_refl _), fun h => absurd h (by simp), fun _ => ⟨g1, g2, g3, g4, g5, g6, g7⟩⟩
  · have := bunch_remove hx hB hmem h1 hok h.c0 (by have := h.c1; omega) (by have := h.len; omega) hdn
    unfold FSA.fp at this
    rw [h.fb] at this
    refine this.mono ?_
    rintro e2 w' ⟨A1, rfl, g1, g2, g3, hf⟩
    rw [e] at g2
    exact ⟨rfl, hf.size, row_frmT hx string_row.1 string_row.2.1 hr hf, A1, g1, g3, hB.above.frm hf hb (Nat.le_refl _), fun _ => g2, fun h => absurd h h1⟩
/-- The round's end. -/
theorem left_next {w wr w6 : World} {fb dn : Nat} {v v6 : Value} {l : List ByteArray} {A A1 : FSA} {c : Int} (h : LeftRel w fb dn v wr l A c) {k : Nat} (hk : k < l.length) (h1 : FSAt w6 A1) (h2 : A1.fb = fb)
    (h3 : 1 < l.length → Bunch A1 2 (l.take k ++ l.drop (k + 1)) dn (c + 1) w.heap.size) (h4 : l.length = 1 → Gone A1 (c + 1) w.heap.size) (h5 : w6.ownsRow w.heap.size 9 1 v6 (k + (l.length - (k + 1))) (svals (l.take k) ++ svals (l.drop (k + 1)))) (h6 : Below w.heap.size w w6) :
    LeftRel w fb dn v6 w6 (l.take k ++ l.drop (k + 1)) A1 (c + 1) := by
  have hlen : (l.take k ++ l.drop (k + 1)).length = k + (l.length - (k + 1)) := by simp; omega
  refine ⟨fun s hs => h.names s ?_, by have := h.len; omega, h1, h2, by have := h.c0; omega, by have := h.c1; omega, fun hp => h3 (by omega), fun hp => h4 (by omega), ?_, h6⟩
  · rcases List.mem_append.1 hs with hs | hs
    · exact List.mem_of_mem_take hs
    · exact List.mem_of_mem_drop hs
  · rw [hlen]
    have : svals (l.take k ++ l.drop (k + 1)) = svals (l.take k) ++ svals (l.drop (k + 1)) := by simp [svals]
    rw [this]
    exact h5
theorem lenOf_own {w : World} {B : Nat} {v : Value} {n : Nat} {xs : List Value} (h : w.ownsRow B 9 1 v n xs) : lenOf v = n := by
  obtain ⟨A, c, rfl⟩ := ownsRow_form h
  rfl
theorem left_measure {w8 wr : World} {B : Nat} {v8 v : Value} {k n : Nat} {xs xs' : List Value} (h : w8.ownsRow B 9 1 v8 (0 + k + (n - (k + 1))) xs) (h' : wr.ownsRow B 9 1 v n xs') (hk : k < n) : lenOf v8 < lenOf v := by
  rw [lenOf_own h, lenOf_own h']; omega
end Go.Proofs.Ytccfimgpbmkpiaa
