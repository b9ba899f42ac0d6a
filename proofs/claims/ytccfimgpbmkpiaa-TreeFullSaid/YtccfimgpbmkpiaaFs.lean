/- What a *tree.FS is in memory: an abstract state (nodes in order of birth, counters) and where its blocks lie. No conditions. -/
import Derived.Test.YtccfimgpbmkpiaaBase
namespace Go.Proofs.Ytccfimgpbmkpiaa
set_option linter.unusedVariables false
set_option linter.unusedSimpArgs false
set_option linter.unusedSectionVars false
open Go.RowKit Go.MapKept

/-- api.Node. -/
structure ANode where
  kind : Int
  mode : Int
  user : Int
  group : Int
  time : Int
  target : ByteArray
  major : Int
  minor : Int
  size : Int
  links : Int
  change : Int

/-- A piece in memory: its place, its slice, its bytes. -/
structure CP where
  at_ : Int
  ad : Option Addr
  len : Nat
  cap : Nat
  bs : List UInt8

def CP.v (p : CP) : Value := .slice p.ad p.len p.cap

/-- A node in memory. -/
structure NodeR where
  n : ANode
  nm : Option Nat
  names : List (ByteArray × Int)
  pad : Option Addr
  plen : Nat
  pcap : Nat
  pieces : List CP
  up : Int
  blk : Nat

structure FSA where
  fb : Nat
  mb : Nat
  nodes : List (Int × NodeR)
  next : Int
  quota : Int
  used : Int
  clock : Int

/-- The types of rows that hold bytes, or nothing of what is turned in place here. -/
def isB (t : TypeId) : Prop := t = 5
theorem isB_u8 : isB 5 := rfl
/-- Bytes behind a slice. -/
def BytesAt (w : World) (A : Option Addr) (n c : Nat) (bs : List UInt8) : Prop :=
  bs.length = n ∧ n ≤ c ∧ (0 < n → ∃ g o cs t fr, A = some ⟨g, o, none⟩ ∧ (isB t ∧ w.heap[g]? = some (.cells cs t fr)) ∧ ∀ j (h : j < bs.length), cs[o + j]? = some (.int .u8 (bs[j].toNat : Int)))

/-- Pieces behind a slice. -/
def PcsAt (w : World) (A : Option Addr) (n c : Nat) (ps : List CP) : Prop :=
  ps.length = n ∧ n ≤ c ∧ (0 < n → ∃ g o cs fr, A = some ⟨g, o, none⟩ ∧ w.heap[g]? = some (.cells cs 54 fr) ∧ ∀ j (h : j < ps.length), cs[o + 2 * j]? = some (.int .i64 ps[j].at_) ∧ cs[o + (2 * j + 1)]? = some ps[j].v) ∧
  ∀ p ∈ ps, BytesAt w p.ad p.len p.cap p.bs

/-- Blocks of cells of the types T stay. -/
def KeepT (T : TypeId → Prop) (w w' : World) : Prop := ∀ (g : Nat) (cs : Array Value) (t : TypeId) (fr : Nat × Nat), T t → w.heap[g]? = some (.cells cs t fr) → w'.heap[g]? = some (.cells cs t fr)
def isData (t : TypeId) : Prop := isB t ∨ t = 54

theorem KeepT.of_frm {T : TypeId → Prop} {B : Nat → Prop} {w w' : World} (h : Frm B w w') (hB : ∀ (b : Nat) (cs : Array Value) (t : TypeId) (fr : Nat × Nat), T t → w.heap[b]? = some (.cells cs t fr) → ¬ B b) : KeepT T w w' :=
  fun g cs t fr ht hg => (h.blk g (heap_lt hg) (hB g cs t fr ht hg)).trans hg
theorem KeepT.of_below {T : TypeId → Prop} {w w' : World} (h : Below w.heap.size w w') : KeepT T w w' := fun g cs t fr _ hg => (h.block g (heap_lt hg)).trans hg
theorem KeepT.trans {T : TypeId → Prop} {a b c : World} (h : KeepT T a b) (k : KeepT T b c) : KeepT T a c := fun g cs t fr ht hg => k g cs t fr ht (h g cs t fr ht hg)

theorem BytesAt.keep {w w' : World} {A : Option Addr} {n c : Nat} {bs : List UInt8} (h : BytesAt w A n c bs) (hk : KeepT isData w w') : BytesAt w' A n c bs := by
  refine ⟨h.1, h.2.1, fun hn => ?_⟩
  obtain ⟨g, o, cs, t, fr, e, ⟨ht, hg⟩, hc⟩ := h.2.2 hn
  exact ⟨g, o, cs, t, fr, e, ⟨ht, hk g cs t fr (.inl ht) hg⟩, hc⟩
theorem PcsAt.keep {w w' : World} {A : Option Addr} {n c : Nat} {ps : List CP} (h : PcsAt w A n c ps) (hk : KeepT isData w w') : PcsAt w' A n c ps := by
  refine ⟨h.1, h.2.1, fun hn => ?_, fun p hp => (h.2.2.2 p hp).keep hk⟩
  obtain ⟨g, o, cs, fr, e, hg, hc⟩ := h.2.2.1 hn
  exact ⟨g, o, cs, fr, e, hk g cs _ fr (.inr rfl) hg, hc⟩
/-- Bytes behind a slice, wherever they lie. -/
def BytesR (w : World) (A : Option Addr) (n c : Nat) (bs : List UInt8) : Prop :=
  bs.length = n ∧ n ≤ c ∧ (0 < n → ∃ g o cs t fr, A = some ⟨g, o, none⟩ ∧ (True ∧ w.heap[g]? = some (.cells cs t fr)) ∧ ∀ j (h : j < bs.length), cs[o + j]? = some (.int .u8 (bs[j].toNat : Int)))
theorem BytesAt.r {w : World} {A : Option Addr} {n c : Nat} {bs : List UInt8} (h : BytesAt w A n c bs) : BytesR w A n c bs := by
  refine ⟨h.1, h.2.1, fun hn => ?_⟩
  obtain ⟨g, o, cs, t, fr, e, ⟨_, hg⟩, hc⟩ := h.2.2 hn
  exact ⟨g, o, cs, t, fr, e, ⟨trivial, hg⟩, hc⟩
theorem BytesR.keep {w w' : World} {A : Option Addr} {n c : Nat} {bs : List UInt8} (h : BytesR w A n c bs) (hk : KeepT (fun _ => True) w w') : BytesR w' A n c bs := by
  refine ⟨h.1, h.2.1, fun hn => ?_⟩
  obtain ⟨g, o, cs, t, fr, e, ⟨_, hg⟩, hc⟩ := h.2.2 hn
  exact ⟨g, o, cs, t, fr, e, ⟨trivial, hk g cs t fr trivial hg⟩, hc⟩
/-- Pieces behind a slice, their bytes wherever they lie. -/
def PcsR (w : World) (A : Option Addr) (n c : Nat) (ps : List CP) : Prop :=
  ps.length = n ∧ n ≤ c ∧ (0 < n → ∃ g o cs fr, A = some ⟨g, o, none⟩ ∧ w.heap[g]? = some (.cells cs 54 fr) ∧ ∀ j (h : j < ps.length), cs[o + 2 * j]? = some (.int .i64 ps[j].at_) ∧ cs[o + (2 * j + 1)]? = some ps[j].v) ∧
  ∀ p ∈ ps, BytesR w p.ad p.len p.cap p.bs
theorem PcsR.keep {w w' : World} {A : Option Addr} {n c : Nat} {ps : List CP} (h : PcsR w A n c ps) (hk : KeepT (fun _ => True) w w') : PcsR w' A n c ps := by
  refine ⟨h.1, h.2.1, fun hn => ?_, fun p hp => (h.2.2.2 p hp).keep hk⟩
  obtain ⟨g, o, cs, fr, e, hg, hc⟩ := h.2.2.1 hn
  exact ⟨g, o, cs, fr, e, hk g cs _ fr trivial hg, hc⟩
theorem PcsR.nil (w : World) : PcsR w none 0 0 [] := ⟨rfl, Nat.le_refl _, fun h => absurd h (by omega), fun p hp => by cases hp⟩
theorem PcsAt.nil (w : World) : PcsAt w none 0 0 [] := ⟨rfl, Nat.le_refl _, fun h => absurd h (by omega), fun p hp => by cases hp⟩

/-- The cells of a node's block. -/
def NodeR.cells (r : NodeR) : Array Value :=
  #[.int .i64 r.n.kind, .int .i64 r.n.mode, .int .i64 r.n.user, .int .i64 r.n.group, .int .i64 r.n.time, .string r.n.target, .int .i64 r.n.major, .int .i64 r.n.minor,
    .int .i64 r.n.size, .int .i64 r.n.links, .int .i64 r.n.change, .map r.nm, .slice r.pad r.plen r.pcap, .int .i64 r.up]
def ANode.val (n : ANode) : Value :=
  .agg #[.int .i64 n.kind, .int .i64 n.mode, .int .i64 n.user, .int .i64 n.group, .int .i64 n.time, .string n.target, .int .i64 n.major, .int .i64 n.minor, .int .i64 n.size, .int .i64 n.links, .int .i64 n.change]

def eInt (n : Int) : Value := .int .i64 n
def ePtr (b : Nat) : Value := .pointer (some ⟨b, 0, none⟩)
def eStr (s : ByteArray) : Value := .string s

structure NodeAt (w : World) (r : NodeR) : Prop where
  blk : Blk w r.blk 72 r.cells
  nm : ∀ b, r.nm = some b → MapOf eStr eInt w b r.names
  nil : r.nm = none → r.names = []
  dir : r.nm.isSome = true ↔ r.n.kind = 6
  pcs : PcsAt w r.pad r.plen r.pcap r.pieces

def FSA.cells (A : FSA) : Array Value := #[.map (some A.mb), .int .i64 A.next, .int .i64 A.quota, .int .i64 A.used, .int .i64 A.clock]
def FSA.fp (A : FSA) : Value := .pointer (some ⟨A.fb, 0, none⟩)

structure FSAt (w : World) (A : FSA) : Prop where
  fs : Blk w A.fb 75 A.cells
  map : MapOf eInt ePtr w A.mb (A.nodes.map fun p => (p.1, p.2.blk))
  node : ∀ p ∈ A.nodes, NodeAt w p.2
  blks : (A.nodes.map (·.2.blk)).Nodup
  nms : (A.mb :: A.nodes.filterMap (·.2.nm)).Nodup

/-- The blocks that calls on A may write. -/
def FSA.owns (A : FSA) (b : Nat) : Prop := b = A.fb ∨ b = A.mb ∨ b ∈ A.nodes.map (·.2.blk) ∨ b ∈ A.nodes.filterMap (·.2.nm)

theorem eInt_inj : ∀ a b, eInt a = eInt b → a = b := fun a b h => by cases h; rfl
theorem eStr_inj : ∀ a b, eStr a = eStr b → a = b := fun a b h => by cases h; rfl
theorem eInt_key : ∀ x, IsKey (.int .i64) (eInt x) := fun x => rfl
theorem eStr_key : ∀ x, IsKey .string (eStr x) := fun x => trivial
theorem zero_pnode (w : World) : (zeroValue 69).run Try.prog w = .ok (.pointer none) w := by kernel_rfl
theorem zero_int (w : World) : (zeroValue 3).run Try.prog w = .ok (.int .i64 0) w := by kernel_rfl

/-- The node at a number. -/
def FSA.node? (A : FSA) (i : Int) : Option NodeR := look A.nodes i

theorem look_map {K V W : Type} [DecidableEq K] (f : V → W) (l : List (K × V)) (k : K) : look (l.map fun p => (p.1, f p.2)) k = (look l k).map f := by
  induction l with
  | nil => rfl
  | cons p l ih =>
    rw [List.map_cons, look_cons, look_cons, ih]
    split <;> rfl

section
variable {w w' : World} {A : FSA}

theorem FSAt.keys (h : FSAt w A) : (A.nodes.map (·.1)).Nodup := by
  have := h.map.keys_nodup
  simpa [List.map_map, Function.comp_def] using this

theorem FSAt.lookup (h : FSAt w A) (i : Int) : (Instr.lookup 73 (.map (some A.mb)) (.int .i64 i) false).run Try.prog w = .ok (match A.node? i with | some r => .pointer (some ⟨r.blk, 0, none⟩) | none => .pointer none) w := by
  have := h.map.lookup (P := Try.prog) (t := 73) Try.underlying73 Try.underlying3 eInt_key eInt_inj _ zero_pnode i false
  rw [look_map (fun r : NodeR => r.blk)] at this
  refine Eq.trans this ?_
  unfold FSA.node?
  cases look A.nodes i <;> rfl

theorem FSAt.mem (h : FSAt w A) {i : Int} {r : NodeR} (hr : A.node? i = some r) : (i, r) ∈ A.nodes := look_mem hr
theorem FSAt.at_ (h : FSAt w A) {i : Int} {r : NodeR} (hr : A.node? i = some r) : NodeAt w r := h.node _ (look_mem hr)

theorem FSAt.len (h : FSAt w A) (ty : TypeId) : (Builtin.len_ #[73] ty #[.map (some A.mb)]).run Try.prog w = .ok (goInt A.nodes.length) w := by
  have := h.map.len (P := Try.prog) (t := 73) ty Try.underlying73
  simpa using this

theorem NodeAt.lookup {r : NodeR} (h : NodeAt w r) {b : Nat} (hb : r.nm = some b) (s : ByteArray) (c : Bool) :
    (Instr.lookup 70 (.map (some b)) (.string s) c).run Try.prog w = .ok (if c then .tuple #[.int .i64 ((look r.names s).getD 0), .bool (look r.names s).isSome] else .int .i64 ((look r.names s).getD 0)) w := by
  have := (h.nm b hb).lookup (P := Try.prog) (t := 70) Try.underlying70 Try.underlying9 eStr_key eStr_inj _ zero_int s c
  refine Eq.trans this ?_
  cases look r.names s <;> cases c <;> rfl

theorem FSAt.c (h : FSAt w A) : ∀ i, w.cell? ⟨A.fb, i, none⟩ = (#[.map (some A.mb), .int .i64 A.next, .int .i64 A.quota, .int .i64 A.used, .int .i64 A.clock] : Array Value)[i]? := h.fs.cell
theorem FSAt.f (h : FSAt w A) : ∀ i, w.frozen? ⟨A.fb, i, none⟩ = false := h.fs.frozen
theorem NodeAt.c {r : NodeR} (h : NodeAt w r) : ∀ i, w.cell? ⟨r.blk, i, none⟩ = (#[.int .i64 r.n.kind, .int .i64 r.n.mode, .int .i64 r.n.user, .int .i64 r.n.group, .int .i64 r.n.time, .string r.n.target, .int .i64 r.n.major, .int .i64 r.n.minor,
    .int .i64 r.n.size, .int .i64 r.n.links, .int .i64 r.n.change, .map r.nm, .slice r.pad r.plen r.pcap, .int .i64 r.up] : Array Value)[i]? := h.blk.cell
theorem NodeAt.f {r : NodeR} (h : NodeAt w r) : ∀ i, w.frozen? ⟨r.blk, i, none⟩ = false := h.blk.frozen
theorem FSAt.look_some (h : FSAt w A) {i : Int} {r : NodeR} (hr : A.node? i = some r) : (Instr.lookup 73 (.map (some A.mb)) (.int .i64 i) false).run Try.prog w = .ok (.pointer (some ⟨r.blk, 0, none⟩)) w := by
  rw [h.lookup, hr]
theorem FSAt.look_none (h : FSAt w A) {i : Int} (hr : A.node? i = none) : (Instr.lookup 73 (.map (some A.mb)) (.int .i64 i) false).run Try.prog w = .ok (.pointer none) w := by
  rw [h.lookup, hr]

/-- What holds of A in w holds in w', where the blocks of A and what their slices lead to are as they were. -/
theorem NodeAt.keep {r : NodeR} (h : NodeAt w r) (h1 : w'.heap[r.blk]? = w.heap[r.blk]?) (h2 : ∀ b, r.nm = some b → w'.heap[b]? = w.heap[b]?) (hk : KeepT isData w w') : NodeAt w' r :=
  ⟨h1.trans h.blk, fun b hb => (h.nm b hb).keep (h2 b hb), h.nil, h.dir, h.pcs.keep hk⟩
theorem FSAt.keep (h : FSAt w A) (hB : ∀ b, A.owns b → w'.heap[b]? = w.heap[b]?) (hk : KeepT isData w w') : FSAt w' A := by
  refine ⟨(hB _ (.inl rfl)).trans h.fs, h.map.keep (hB _ (.inr (.inl rfl))), fun p hp => (h.node p hp).keep (hB _ (.inr (.inr (.inl (List.mem_map.2 ⟨p, hp, rfl⟩))))) (fun b hb => hB _ (.inr (.inr (.inr (List.mem_filterMap.2 ⟨p, hp, hb⟩))))) hk, h.blks, h.nms⟩
theorem FSAt.owns_lt (h : FSAt w A) {b : Nat} (hb : A.owns b) : b < w.heap.size := by
  rcases hb with rfl | rfl | hb | hb
  · exact h.fs.lt
  · exact h.map.lt
  · obtain ⟨p, hp, rfl⟩ := List.mem_map.1 hb
    exact (h.node p hp).blk.lt
  · obtain ⟨p, hp, hq⟩ := List.mem_filterMap.1 hb
    exact ((h.node p hp).nm b hq).lt
theorem FSAt.below (h : FSAt w A) (hb : Below w.heap.size w w') : FSAt w' A := h.keep (fun b hb' => hb.block b (h.owns_lt hb')) (KeepT.of_below hb)
theorem FSAt.drew (h : FSAt w A) : FSAt w.drew A := h.keep (fun _ _ => rfl) (fun _ _ _ _ _ h => h)
/-- No block of A holds bytes or pieces. -/
theorem FSAt.owns_not_data (h : FSAt w A) (b : Nat) (cs : Array Value) (t : TypeId) (fr : Nat × Nat) (ht : isData t) (hb : w.heap[b]? = some (.cells cs t fr)) : ¬ A.owns b := by
  intro ho
  have hne : ∀ t' cs', w.heap[b]? = some (.cells cs' t' (0, 0)) → t' = t := fun t' cs' h' => by rw [hb] at h'; injection h' with h'; injection h' with _ e _; exact e.symm
  have key : ¬ (75 = t) ∧ ¬ (72 = t) := by
    rcases ht with ht | rfl
    · obtain rfl : t = 5 := ht
      decide
    · decide
  rcases ho with rfl | rfl | ho | ho
  · exact key.1 (hne _ _ h.fs)
  · obtain ⟨es, ck, h1, _⟩ := h.map
    rw [hb] at h1; cases h1
  · obtain ⟨p, hp, rfl⟩ := List.mem_map.1 ho
    exact key.2 (hne _ _ (h.node p hp).blk)
  · obtain ⟨p, hp, hq⟩ := List.mem_filterMap.1 ho
    obtain ⟨es, ck, h1, _⟩ := (h.node p hp).nm b hq
    rw [hb] at h1; cases h1
end
end Go.Proofs.Ytccfimgpbmkpiaa
