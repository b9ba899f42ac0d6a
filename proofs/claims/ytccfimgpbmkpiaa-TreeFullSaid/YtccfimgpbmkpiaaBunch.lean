/- A file with many names in the root: what Link and Remove turn of it. No conditions. -/
import Derived.Test.YtccfimgpbmkpiaaLinkLaws
import Derived.Test.YtccfimgpbmkpiaaWriteZ
namespace Go.Proofs.Ytccfimgpbmkpiaa
set_option linter.unusedVariables false
set_option linter.unusedSimpArgs false
set_option maxRecDepth 100000
open Go.RowKit Go.MapKept

/-- A file with the names l, of n bytes. -/
structure Bunch (A : FSA) (ino : Int) (l : List ByteArray) (n : Nat) (clock : Int) (base : Nat) : Prop where
  above : A.above base
  next : A.next = ino + 1
  keys : A.nodes.map (·.1) = [1, ino]
  ne : ino ≠ 1
  clock : A.clock = clock
  used : A.used = n
  quota : A.quota = 1000
  nodup : l.Nodup
  root : ∃ d, A.node? 1 = some d ∧ d.n.kind = 6 ∧ d.names = l.map fun s => (s, ino)
  file : ∃ x, A.node? ino = some x ∧ x.n.kind = 1 ∧ x.n.links = l.length ∧ x.nm = none ∧ sumLen x.pieces = n ∧ x.plen ≤ 1000

theorem look_names {l : List ByteArray} {ino : Int} {s : ByteArray} (h : s ∈ l) : look (l.map fun s => (s, ino)) s = some ino := by
  induction l with
  | nil => cases h
  | cons a l ih =>
    rw [List.map_cons, look_cons]
    by_cases e : a = s
    · rw [if_pos e]
    · rw [if_neg e]
      rcases List.mem_cons.1 h with h | h
      · exact absurd h.symm e
      · exact ih h
theorem look_names_none {l : List ByteArray} {ino : Int} {s : ByteArray} (h : s ∉ l) : look (l.map fun s => (s, ino)) s = none := by
  rw [look_none, List.map_map]
  intro hm
  obtain ⟨a, ha, e⟩ := List.mem_map.1 hm
  exact h (show s ∈ l from (show a = s from e) ▸ ha)
/-- A list without s. -/
def rm (s : ByteArray) (l : List ByteArray) : List ByteArray := l.filter fun a => !decide (a = s)
theorem rm_nodup {s : ByteArray} {l : List ByteArray} (h : l.Nodup) : (rm s l).Nodup := List.Pairwise.sublist List.filter_sublist h
theorem rm_none {s : ByteArray} {l : List ByteArray} (h : s ∉ l) : rm s l = l := by
  unfold rm
  rw [List.filter_eq_self]
  intro a ha
  have : a ≠ s := fun e => h (e ▸ ha)
  simp [this]
theorem rm_len {s : ByteArray} : ∀ {l : List ByteArray}, l.Nodup → s ∈ l → (rm s l).length + 1 = l.length
  | a :: l, hn, hs => by
    obtain ⟨h1, h2⟩ := List.nodup_cons.1 hn
    by_cases e : a = s
    · subst e
      have : rm a (a :: l) = rm a l := by unfold rm; simp
      rw [this, rm_none h1]; rfl
    · have : rm s (a :: l) = a :: rm s l := by unfold rm; simp [e]
      rw [this]
      rcases List.mem_cons.1 hs with hs | hs
      · exact absurd hs.symm e
      · have := rm_len h2 hs
        simp only [List.length_cons]
        omega

theorem Bunch.link {w w' : World} {A : FSA} {ino : Int} {l : List ByteArray} {n : Nat} {clock : Int} {base : Nat} (hA : FSAt w A) (h : Bunch A ino l n clock base) {s : ByteArray} (hs : s ∉ l) {d x : NodeR} (hd : A.node? 1 = some d) (hx : A.node? ino = some x) {nb : Nat} (hnb : d.nm = some nb) :
    Bunch (A.linked d x nb s ino) ino (l ++ [s]) n (clock + 1) base := by
  obtain ⟨a1, a2, a3, a4, a5, a6, a7⟩ := linked_rest A d x nb s ino
  obtain ⟨d', hd', d6, dn⟩ := h.root
  obtain ⟨x', hx', x1, xl, xn, xs, xp⟩ := h.file
  obtain rfl : d' = d := by rw [hd] at hd'; exact (Option.some.inj hd').symm
  obtain rfl : x' = x := by rw [hx] at hx'; exact (Option.some.inj hx').symm
  have hbn := hA.blk_ne hx hd h.ne
  have e1 := linked_node A d' x' nb s ino 1
  have e2 := linked_node A d' x' nb s ino ino
  rw [hd, Option.map_some] at e1
  rw [hx, Option.map_some] at e2
  obtain ⟨r1, r2⟩ := lnR_rest x' (x'.n.links + 1) nb (fun l => l ++ [(s, ino)]) d'
  obtain ⟨q1, q2⟩ := lnR_rest x' (x'.n.links + 1) nb (fun l => l ++ [(s, ino)]) x'
  have c1 := (tickR_core (A.clock + 1) [d'.blk] [x'.blk] _).trans r1
  have c2 := (tickR_core (A.clock + 1) [d'.blk] [x'.blk] _).trans q1
  refine ⟨fun b hb => h.above b (by rw [a7] at hb; exact hb), a2.trans h.next, a6.trans h.keys, h.ne, by rw [a5, h.clock], a4.trans h.used, a3.trans h.quota, ?_, ⟨_, e1, ?_, ?_⟩, ⟨_, e2, ?_, ?_, ?_, ?_, ?_⟩⟩
  · exact List.nodup_append.2 ⟨h.nodup, by simp, fun a ha b hb e => by
      obtain rfl : b = s := by simpa using hb
      exact hs (e ▸ ha)⟩
  · exact (congrArg Core.kind c1).trans d6
  · refine (congrArg Core.names c1).trans ?_
    show (if d'.nm = some nb then d'.names ++ [(s, ino)] else d'.names) = _
    rw [if_pos hnb, dn, List.map_append]; rfl
  · exact (congrArg Core.kind c2).trans x1
  · rw [tickR_links, q2, if_pos rfl, xl]; simp
  · exact (congrArg Core.nm c2).trans xn
  · rw [show (tickR _ _ _ _).pieces = _ from congrArg Core.pieces c2]; exact xs
  · rw [show (tickR _ _ _ _).plen = _ from congrArg Core.plen c2]; exact xp

theorem Bunch.remove {w : World} {A : FSA} {ino : Int} {l : List ByteArray} {n : Nat} {clock : Int} {base : Nat} (hA : FSAt w A) (h : Bunch A ino l n clock base) {s : ByteArray} (hs : s ∈ l) (hl : l.length ≠ 1) {d x : NodeR} (hd : A.node? 1 = some d) (hx : A.node? ino = some x) {nb : Nat} (hnb : d.nm = some nb) :
    Bunch (A.removed d x nb s ino) ino (rm s l) n (clock + 1) base := by
  obtain ⟨d', hd', d6, dn⟩ := h.root
  obtain ⟨x', hx', x1, xl, xn, xs, xp⟩ := h.file
  obtain rfl : d' = d := by rw [hd] at hd'; exact (Option.some.inj hd').symm
  obtain rfl : x' = x := by rw [hx] at hx'; exact (Option.some.inj hx').symm
  have hne : x'.n.links ≠ 1 := by rw [xl]; omega
  obtain ⟨a1, a2, a3, a4, a5, a6, a7⟩ := removed_rest1 A d' x' nb s ino hne
  have e1 := removed_node1 A d' x' nb s ino 1 hne
  have e2 := removed_node1 A d' x' nb s ino ino hne
  rw [hd, Option.map_some] at e1
  rw [hx, Option.map_some] at e2
  obtain ⟨r1, r2⟩ := lnR_rest x' (x'.n.links - 1) nb (fun l => l.filter fun p => !decide (p.1 = s)) d'
  obtain ⟨q1, q2⟩ := lnR_rest x' (x'.n.links - 1) nb (fun l => l.filter fun p => !decide (p.1 = s)) x'
  have c1 := (tickR_core (A.clock + 1) [d'.blk] [x'.blk] _).trans r1
  have c2 := (tickR_core (A.clock + 1) [d'.blk] [x'.blk] _).trans q1
  refine ⟨fun b hb => h.above b (by rw [a7] at hb; exact hb), a2.trans h.next, a6.trans h.keys, h.ne, by rw [a5, h.clock], a4.trans h.used, a3.trans h.quota, rm_nodup h.nodup, ⟨_, e1, ?_, ?_⟩, ⟨_, e2, ?_, ?_, ?_, ?_, ?_⟩⟩
  · exact (congrArg Core.kind c1).trans d6
  · refine (congrArg Core.names c1).trans ?_
    show (if d'.nm = some nb then d'.names.filter (fun p => !decide (p.1 = s)) else d'.names) = _
    rw [if_pos hnb, dn, List.filter_map]
    rfl
  · exact (congrArg Core.kind c2).trans x1
  · rw [tickR_links, q2, if_pos rfl, xl]
    have := rm_len h.nodup hs
    omega
  · exact (congrArg Core.nm c2).trans xn
  · rw [show (tickR _ _ _ _).pieces = _ from congrArg Core.pieces c2]; exact xs
  · rw [show (tickR _ _ _ _).plen = _ from congrArg Core.plen c2]; exact xp

/-- The last name is gone, and the file with it. -/
theorem Bunch.last {w : World} {A : FSA} {ino : Int} {s : ByteArray} {n : Nat} {clock : Int} {base : Nat} (hA : FSAt w A) (h : Bunch A ino [s] n clock base) {d x : NodeR} (hd : A.node? 1 = some d) (hx : A.node? ino = some x) {nb : Nat} (hnb : d.nm = some nb) :
    (A.removed d x nb s ino).above base ∧ (A.removed d x nb s ino).next = ino + 1 ∧ (A.removed d x nb s ino).nodes.map (·.1) = [1] ∧ (A.removed d x nb s ino).clock = clock + 1 ∧ (A.removed d x nb s ino).used = 0 ∧
      (A.removed d x nb s ino).node? ino = none ∧ ∃ d2, (A.removed d x nb s ino).node? 1 = some d2 ∧ d2.n.kind = 6 ∧ d2.names = [] := by
  obtain ⟨d', hd', d6, dn⟩ := h.root
  obtain ⟨x', hx', x1, xl, xn, xs, xp⟩ := h.file
  obtain rfl : d' = d := by rw [hd] at hd'; exact (Option.some.inj hd').symm
  obtain rfl : x' = x := by rw [hx] at hx'; exact (Option.some.inj hx').symm
  have hne : x'.n.links = 1 := by rw [xl]; rfl
  obtain ⟨a1, a2, a3, a4, a5, a6, a7⟩ := removed_rest0 A d' x' nb s ino hne
  have e1 := removed_node0 A d' x' nb s ino 1 hne
  have e2 := removed_node0 A d' x' nb s ino ino hne
  rw [if_neg h.ne, hd, Option.map_some] at e1
  rw [if_pos rfl] at e2
  obtain ⟨r1, r2⟩ := lnR_rest x' (x'.n.links - 1) nb (fun l => l.filter fun p => !decide (p.1 = s)) d'
  have c1 := (tickR_core (A.clock + 1) [d'.blk] [x'.blk] _).trans r1
  refine ⟨fun b hb => h.above b (a7 b hb), a2.trans h.next, ?_, by rw [a5, h.clock], ?_, e2, _, e1, (congrArg Core.kind c1).trans d6, ?_⟩
  · rw [a6, h.keys]
    have : (1 : Int) ≠ ino := Ne.symm h.ne
    simp [this]
  · rw [a4, h.used, xs]; omega
  · refine (congrArg Core.names c1).trans ?_
    show (if d'.nm = some nb then d'.names.filter (fun p => !decide (p.1 = s)) else d'.names) = _
    rw [if_pos hnb, dn]; simp
end Go.Proofs.Ytccfimgpbmkpiaa
