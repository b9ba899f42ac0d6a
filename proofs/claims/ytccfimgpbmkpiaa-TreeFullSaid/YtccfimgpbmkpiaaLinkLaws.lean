/- What the nodes are behind Link and Remove: plain laws of the abstract state. No conditions. -/
import Derived.Test.YtccfimgpbmkpiaaRemove
import Derived.Test.YtccfimgpbmkpiaaChain
namespace Go.Proofs.Ytccfimgpbmkpiaa
set_option linter.unusedVariables false
set_option linter.unusedSimpArgs false
set_option maxRecDepth 100000
open Go.RowKit Go.MapKept

def lnR (x : NodeR) (c : Int) (nb : Nat) (g : List (ByteArray × Int) → List (ByteArray × Int)) (r : NodeR) : NodeR :=
  if (nmR nb g r).blk = x.blk then setLinks c (nmR nb g r) else nmR nb g r
theorem lnR_rest (x : NodeR) (c : Int) (nb : Nat) (g : List (ByteArray × Int) → List (ByteArray × Int)) (r : NodeR) :
    (lnR x c nb g r).core = { r.core with names := if r.nm = some nb then g r.names else r.names } ∧ (lnR x c nb g r).n.links = if r.blk = x.blk then c else r.n.links := by
  unfold lnR nmR
  by_cases h1 : r.nm = some nb <;> by_cases h2 : r.blk = x.blk <;> simp [h1, h2, setLinks, NodeR.core]
theorem tickR_links (c : Int) (ds ls : List Nat) (r : NodeR) : (tickR c ds ls r).n.links = r.n.links := by
  unfold tickR
  split <;> split <;> rfl

theorem linked_node (A : FSA) (d x : NodeR) (nb : Nat) (part : ByteArray) (ino k : Int) :
    (A.linked d x nb part ino).node? k = (A.node? k).map fun r => tickR (A.clock + 1) [d.blk] [x.blk] (lnR x (x.n.links + 1) nb (fun l => l ++ [(part, ino)]) r) := by
  unfold FSA.linked
  rw [tick_node, updB_node, updN_node]
  cases A.node? k with
  | none => rfl
  | some r => rfl
theorem linked_rest (A : FSA) (d x : NodeR) (nb : Nat) (part : ByteArray) (ino : Int) :
    (A.linked d x nb part ino).fb = A.fb ∧ (A.linked d x nb part ino).next = A.next ∧ (A.linked d x nb part ino).quota = A.quota ∧ (A.linked d x nb part ino).used = A.used ∧ (A.linked d x nb part ino).clock = A.clock + 1 ∧
      (A.linked d x nb part ino).nodes.map (·.1) = A.nodes.map (·.1) ∧ (A.linked d x nb part ino).owns = A.owns := by
  unfold FSA.linked
  obtain ⟨a1, a2, a3, a4, a5, a6⟩ := tick_rest ((A.updN nb fun l => l ++ [(part, ino)]).updB x.blk (setLinks (x.n.links + 1))) [d.blk] [x.blk]
  refine ⟨a1, a3, a4, a5, a6, ?_, ?_⟩
  · rw [tick_keys]
    exact (updB_keys (f := setLinks (x.n.links + 1)) x.blk).trans (updN_keys A nb _)
  · rw [tick_owns]
    exact (updB_owns (f := setLinks (x.n.links + 1)) _ (fun _ => rfl) (fun _ => rfl)).trans (updN_owns nb _)

theorem cut_node (A : FSA) (x : NodeR) (nb : Nat) (part : ByteArray) (k : Int) : (A.cut x nb part).node? k = (A.node? k).map (lnR x (x.n.links - 1) nb (fun l => l.filter fun p => !decide (p.1 = part))) := by
  unfold FSA.cut
  rw [updB_node, updN_node]
  cases A.node? k with
  | none => rfl
  | some r => rfl
theorem delNode_node (A : FSA) (i k : Int) : (A.delNode i).node? k = if i = k then none else A.node? k := look_filter A.nodes i k
theorem removed_node1 (A : FSA) (d x : NodeR) (nb : Nat) (part : ByteArray) (ino k : Int) (h : x.n.links ≠ 1) :
    (A.removed d x nb part ino).node? k = (A.node? k).map fun r => tickR (A.clock + 1) [d.blk] [x.blk] (lnR x (x.n.links - 1) nb (fun l => l.filter fun p => !decide (p.1 = part)) r) := by
  unfold FSA.removed
  rw [if_neg h, tick_node, cut_node]
  cases A.node? k with
  | none => rfl
  | some r => rfl
theorem removed_node0 (A : FSA) (d x : NodeR) (nb : Nat) (part : ByteArray) (ino k : Int) (h : x.n.links = 1) :
    (A.removed d x nb part ino).node? k = if ino = k then none else (A.node? k).map fun r => tickR (A.clock + 1) [d.blk] [x.blk] (lnR x (x.n.links - 1) nb (fun l => l.filter fun p => !decide (p.1 = part)) r) := by
  unfold FSA.removed
  rw [if_pos h, tick_node, delNode_node]
  by_cases e : ino = k
  · rw [if_pos e, if_pos e]; rfl
  · rw [if_neg e, if_neg e]
    show Option.map _ ((A.cut x nb part).node? k) = _
    rw [cut_node]
    cases A.node? k with
    | none => rfl
    | some r => rfl
theorem removed_rest1 (A : FSA) (d x : NodeR) (nb : Nat) (part : ByteArray) (ino : Int) (h : x.n.links ≠ 1) :
    (A.removed d x nb part ino).fb = A.fb ∧ (A.removed d x nb part ino).next = A.next ∧ (A.removed d x nb part ino).quota = A.quota ∧ (A.removed d x nb part ino).used = A.used ∧ (A.removed d x nb part ino).clock = A.clock + 1 ∧
      (A.removed d x nb part ino).nodes.map (·.1) = A.nodes.map (·.1) ∧ (A.removed d x nb part ino).owns = A.owns := by
  unfold FSA.removed
  rw [if_neg h]
  obtain ⟨a1, a2, a3, a4, a5, a6⟩ := tick_rest (A.cut x nb part) [d.blk] [x.blk]
  refine ⟨a1, a3, a4, a5, a6, ?_, ?_⟩
  · rw [tick_keys]
    exact (updB_keys (f := setLinks (x.n.links - 1)) x.blk).trans (updN_keys A nb _)
  · rw [tick_owns]
    exact (updB_owns (f := setLinks (x.n.links - 1)) _ (fun _ => rfl) (fun _ => rfl)).trans (updN_owns nb _)
theorem removed_rest0 (A : FSA) (d x : NodeR) (nb : Nat) (part : ByteArray) (ino : Int) (h : x.n.links = 1) :
    (A.removed d x nb part ino).fb = A.fb ∧ (A.removed d x nb part ino).next = A.next ∧ (A.removed d x nb part ino).quota = A.quota ∧ (A.removed d x nb part ino).used = A.used - sumLen x.pieces ∧ (A.removed d x nb part ino).clock = A.clock + 1 ∧
      (A.removed d x nb part ino).nodes.map (·.1) = (A.nodes.map (·.1)).filter (fun i => !decide (i = ino)) ∧ (∀ b, (A.removed d x nb part ino).owns b → A.owns b) := by
  unfold FSA.removed
  rw [if_pos h]
  obtain ⟨a1, a2, a3, a4, a5, a6⟩ := tick_rest (FSA.delNode { A.cut x nb part with used := A.used - sumLen x.pieces } ino) [d.blk] [x.blk]
  refine ⟨a1, a3, a4, a5, a6, ?_, ?_⟩
  · rw [tick_keys]
    show ((A.cut x nb part).nodes.filter fun p => !decide (p.1 = ino)).map (·.1) = _
    rw [← (show (A.cut x nb part).nodes.map (·.1) = A.nodes.map (·.1) from (updB_keys (f := setLinks (x.n.links - 1)) x.blk).trans (updN_keys A nb _)), List.filter_map]
    rfl
  · rw [tick_owns]
    intro b hb
    have e : (A.cut x nb part).owns = A.owns := (updB_owns (f := setLinks (x.n.links - 1)) _ (fun _ => rfl) (fun _ => rfl)).trans (updN_owns nb _)
    rw [← e]
    rcases hb with hb | hb | hb | hb
    · exact .inl hb
    · exact .inr (.inl hb)
    · exact .inr (.inr (.inl ((List.filter_sublist.map _).subset hb)))
    · exact .inr (.inr (.inr ((List.filter_sublist.filterMap _).subset hb)))
end Go.Proofs.Ytccfimgpbmkpiaa
