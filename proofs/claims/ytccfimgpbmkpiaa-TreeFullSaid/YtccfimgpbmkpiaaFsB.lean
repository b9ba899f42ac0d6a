/- A store into a node's block, told as a change of the abstract state. No conditions. -/
import Derived.Test.YtccfimgpbmkpiaaFs
namespace Go.Proofs.Ytccfimgpbmkpiaa
set_option linter.unusedVariables false
set_option linter.unusedSimpArgs false
open Go.RowKit Go.MapKept

/-- The node that lies in block b, turned. -/
def FSA.updB (A : FSA) (b : Nat) (f : NodeR → NodeR) : FSA := { A with nodes := A.nodes.map fun p => if p.2.blk = b then (p.1, f p.2) else p }

/-- What a store into a node's block may be. -/
structure Turns (f : NodeR → NodeR) (i : Nat) (v : Value) : Prop where
  cells : ∀ r, (f r).cells = r.cells.setIfInBounds i v
  blk : ∀ r, (f r).blk = r.blk
  nm : ∀ r, (f r).nm = r.nm
  names : ∀ r, (f r).names = r.names
  kind : ∀ r, (f r).n.kind = r.n.kind

section
variable {w w' : World} {A : FSA} {f : NodeR → NodeR}

theorem updB_keys (b : Nat) : (A.updB b f).nodes.map (·.1) = A.nodes.map (·.1) := by
  unfold FSA.updB
  simp only [List.map_map]
  exact List.map_congr_left fun p _ => by simp only [Function.comp]; split <;> rfl
theorem updB_blks (b : Nat) (hb : ∀ r, (f r).blk = r.blk) : (A.updB b f).nodes.map (·.2.blk) = A.nodes.map (·.2.blk) := by
  unfold FSA.updB
  simp only [List.map_map]
  exact List.map_congr_left fun p _ => by simp only [Function.comp]; split <;> simp [hb]
theorem updB_kb (b : Nat) (hb : ∀ r, (f r).blk = r.blk) : ((A.updB b f).nodes.map fun p => (p.1, p.2.blk)) = A.nodes.map fun p => (p.1, p.2.blk) := by
  unfold FSA.updB
  simp only [List.map_map]
  exact List.map_congr_left fun p _ => by simp only [Function.comp]; split <;> simp [hb]
theorem updB_nms (b : Nat) (hb : ∀ r, (f r).nm = r.nm) : (A.updB b f).nodes.filterMap (·.2.nm) = A.nodes.filterMap (·.2.nm) := by
  unfold FSA.updB
  simp only [List.filterMap_map]
  congr 1
  funext p
  simp only [Function.comp]; split <;> simp [hb]
theorem updB_owns (b : Nat) (h1 : ∀ r, (f r).blk = r.blk) (h2 : ∀ r, (f r).nm = r.nm) : (A.updB b f).owns = A.owns := by
  funext x
  unfold FSA.owns
  rw [updB_blks b h1, updB_nms b h2]
  rfl
theorem updB_node (b : Nat) (k : Int) : (A.updB b f).node? k = (A.node? k).map fun r => if r.blk = b then f r else r := by
  unfold FSA.node? FSA.updB
  have : (A.nodes.map fun p => if p.2.blk = b then (p.1, f p.2) else p) = A.nodes.map fun p => (p.1, if p.2.blk = b then f p.2 else p.2) :=
    List.map_congr_left fun p _ => by split <;> rfl
  rw [this, look_map (fun r : NodeR => if r.blk = b then f r else r)]

/-- A store into the block of a node. -/
theorem FSAt.store (h : FSAt w A) {b i : Nat} {v : Value} {cs : Array Value} (hb : Blk w b 72 cs) (T : Turns f i v) (hp : ∀ r, NodeAt w r → PcsAt w (f r).pad (f r).plen (f r).pcap (f r).pieces) :
    FSAt (w.setCell ⟨b, i, none⟩ v) (A.updB b f) := by
  have hk : KeepT isData w (w.setCell ⟨b, i, none⟩ v) := by
    intro g cs' t fr ht hg
    have hne : g ≠ b := by
      rintro rfl
      unfold Blk at hb
      rw [hb] at hg
      injection hg with hg
      injection hg with _ e _
      subst e
      rcases ht with e | e
      · exact absurd (show 72 = 5 from e) (by decide)
      · cases e
    exact (Below.heap_setCell w ⟨b, i, none⟩ v g hne).trans hg
  have hmap : ∀ {g : Nat} {es ck}, w.heap[g]? = some (.map es ck) → (w.setCell ⟨b, i, none⟩ v).heap[g]? = w.heap[g]? := by
    intro g es ck hg
    refine Below.heap_setCell w ⟨b, i, none⟩ v g ?_
    rintro rfl
    unfold Blk at hb
    rw [hb] at hg; cases hg
  have hn : ∀ r, NodeAt w r → NodeAt (w.setCell ⟨b, i, none⟩ v) (if r.blk = b then f r else r) := by
    intro r hr
    have hnm : ∀ b', r.nm = some b' → (w.setCell ⟨b, i, none⟩ v).heap[b']? = w.heap[b']? := fun b' e => by
      obtain ⟨es, ck, h1, _⟩ := hr.nm b' e
      exact hmap h1
    by_cases e : r.blk = b
    · rw [if_pos e]
      refine ⟨?_, fun b' eb => ?_, fun e' => ?_, ?_, (hp r hr).keep hk⟩
      · have := (e ▸ hr.blk : Blk w b 72 r.cells).set_ i v
        rw [T.blk, T.cells, e]; exact this
      · rw [T.names]; rw [T.nm] at eb; exact (hr.nm b' eb).keep (hnm b' eb)
      · rw [T.names]; rw [T.nm] at e'; exact hr.nil e'
      · rw [T.nm, T.kind]; exact hr.dir
    · rw [if_neg e]
      exact hr.keep (Below.heap_setCell _ _ _ _ e) hnm hk
  refine ⟨?_, ?_, ?_, ?_, ?_⟩
  · exact h.fs.far (h.fs.ne_ hb (by decide)) v
  · rw [updB_kb b T.blk]
    obtain ⟨es, ck, h1, _⟩ := h.map
    exact h.map.keep (hmap h1)
  · intro p hp
    unfold FSA.updB at hp
    obtain ⟨q, hq, rfl⟩ := List.mem_map.1 hp
    have := hn q.2 (h.node q hq)
    split at this <;> rename_i e <;> simpa [e] using this
  · rw [updB_blks b T.blk]; exact h.blks
  · rw [updB_nms b T.nm]; exact h.nms

/-- The same for the fields that are no pieces. -/
theorem FSAt.store' (h : FSAt w A) {b i : Nat} {v : Value} {cs : Array Value} (hb : Blk w b 72 cs) (T : Turns f i v) (hp : ∀ r, (f r).pad = r.pad ∧ (f r).plen = r.plen ∧ (f r).pcap = r.pcap ∧ (f r).pieces = r.pieces) :
    FSAt (w.setCell ⟨b, i, none⟩ v) (A.updB b f) := by
  refine h.store hb T fun r hr => ?_
  obtain ⟨e1, e2, e3, e4⟩ := hp r
  rw [e1, e2, e3, e4]; exact hr.pcs

def setChange (c : Int) (r : NodeR) : NodeR := { r with n := { r.n with change := c } }
def setTime (c : Int) (r : NodeR) : NodeR := { r with n := { r.n with time := c } }
def setLinks (c : Int) (r : NodeR) : NodeR := { r with n := { r.n with links := c } }
def setSize (c : Int) (r : NodeR) : NodeR := { r with n := { r.n with size := c } }
def setUp (c : Int) (r : NodeR) : NodeR := { r with up := c }
theorem turns_change (c : Int) : Turns (setChange c) 10 (.int .i64 c) := ⟨fun _ => rfl, fun _ => rfl, fun _ => rfl, fun _ => rfl, fun _ => rfl⟩
theorem turns_time (c : Int) : Turns (setTime c) 4 (.int .i64 c) := ⟨fun _ => rfl, fun _ => rfl, fun _ => rfl, fun _ => rfl, fun _ => rfl⟩
theorem turns_links (c : Int) : Turns (setLinks c) 9 (.int .i64 c) := ⟨fun _ => rfl, fun _ => rfl, fun _ => rfl, fun _ => rfl, fun _ => rfl⟩
theorem turns_size (c : Int) : Turns (setSize c) 8 (.int .i64 c) := ⟨fun _ => rfl, fun _ => rfl, fun _ => rfl, fun _ => rfl, fun _ => rfl⟩
theorem turns_up (c : Int) : Turns (setUp c) 13 (.int .i64 c) := ⟨fun _ => rfl, fun _ => rfl, fun _ => rfl, fun _ => rfl, fun _ => rfl⟩

/-- A store into the counters. -/
theorem FSAt.counter (h : FSAt w A) {i : Nat} {v : Value} {A' : FSA} (h1 : A'.fb = A.fb) (h2 : A'.mb = A.mb) (h3 : A'.nodes = A.nodes) (hc : A'.cells = A.cells.setIfInBounds i v) : FSAt (w.setCell ⟨A.fb, i, none⟩ v) A' := by
  have far : ∀ g, g ≠ A.fb → (w.setCell ⟨A.fb, i, none⟩ v).heap[g]? = w.heap[g]? := fun g hg => Below.heap_setCell _ _ _ _ hg
  have hk : KeepT isData w (w.setCell ⟨A.fb, i, none⟩ v) := by
    intro g cs' t fr ht hg
    refine (far g ?_).trans hg
    rintro rfl
    exact h.owns_not_data _ _ _ _ ht hg (.inl rfl)
  have hm : ∀ {g : Nat} {es ck}, w.heap[g]? = some (.map es ck) → (w.setCell ⟨A.fb, i, none⟩ v).heap[g]? = w.heap[g]? := by
    intro g es ck hg
    refine far g ?_
    rintro rfl
    have := h.fs
    unfold Blk at this
    rw [this] at hg; cases hg
  refine ⟨?_, ?_, ?_, by rw [h3]; exact h.blks, by rw [h2, h3]; exact h.nms⟩
  · rw [h1, hc]; exact h.fs.set_ i v
  · obtain ⟨es, ck, g1, _⟩ := h.map
    rw [h2, h3]; exact h.map.keep (hm g1)
  · rw [h3]
    intro p hp
    have hr := h.node p hp
    refine hr.keep (far _ (hr.blk.ne_ h.fs (by decide))) (fun b hb => ?_) hk
    obtain ⟨es, ck, g1, _⟩ := hr.nm b hb
    exact hm g1
end
end Go.Proofs.Ytccfimgpbmkpiaa
