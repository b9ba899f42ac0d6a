/- A chain of directories, each in the one before: what Make and Move turn of it; rows of numbers beside a tree. No conditions. -/
import Derived.Test.YtccfimgpbmkpiaaAwake
import Derived.Laws.BitsLemmas
namespace Go.Proofs.Ytccfimgpbmkpiaa
set_option linter.unusedVariables false
set_option linter.unusedSimpArgs false
set_option maxRecDepth 100000
open Go.RowKit Go.MapKept

theorem i64_and7 (n : Int) : bits .and .i64 n 7 = n % 8 := by
  have h127 : (BitVec.ofInt 64 7).toNat = 2 ^ 3 - 1 := by decide
  have key : (BitVec.ofInt 64 n &&& BitVec.ofInt 64 7).toNat = (n % ((2 ^ 64 : Nat) : Int)).toNat % 2 ^ 3 := by
    rw [BitVec.toNat_and, BitVec.toNat_ofInt, h127, Nat.and_two_pow_sub_one_eq_mod]
  show IntKind.i64.wrap ((BitVec.ofInt 64 n &&& BitVec.ofInt 64 7).toNat : Nat) = n % 8
  rw [key, IntKind.wrap_i64]
  omega
theorem i64_and255 (n : Int) : bits .and .i64 n 255 = n % 256 := by
  have h127 : (BitVec.ofInt 64 255).toNat = 2 ^ 8 - 1 := by decide
  have key : (BitVec.ofInt 64 n &&& BitVec.ofInt 64 255).toNat = (n % ((2 ^ 64 : Nat) : Int)).toNat % 2 ^ 8 := by
    rw [BitVec.toNat_and, BitVec.toNat_ofInt, h127, Nat.and_two_pow_sub_one_eq_mod]
  show IntKind.i64.wrap ((BitVec.ofInt 64 n &&& BitVec.ofInt 64 255).toNat : Nat) = n % 256
  rw [key, IntKind.wrap_i64]
  omega

/-- No block of A holds cells of another type. -/
theorem FSAt.not_own {w : World} {A : FSA} (h : FSAt w A) (b : Nat) (cs : Array Value) (t : TypeId) (fr : Nat × Nat) (h1 : 75 ≠ t) (h2 : 72 ≠ t) (hb : w.heap[b]? = some (.cells cs t fr)) : ¬ A.owns b := by
  intro ho
  have hne : ∀ t' cs', w.heap[b]? = some (.cells cs' t' (0, 0)) → t' = t := fun t' cs' h' => by rw [hb] at h'; injection h' with h'; injection h' with _ e _; exact e.symm
  rcases ho with rfl | rfl | ho | ho
  · exact h1 (hne _ _ h.fs)
  · obtain ⟨es, ck, h1, _⟩ := h.map
    rw [hb] at h1; cases h1
  · obtain ⟨p, hp, rfl⟩ := List.mem_map.1 ho
    exact h2 (hne _ _ (h.node p hp).blk)
  · obtain ⟨p, hp, hq⟩ := List.mem_filterMap.1 ho
    obtain ⟨es, ck, h1, _⟩ := (h.node p hp).nm b hq
    rw [hb] at h1; cases h1
/-- What a row of numbers' block is. -/
theorem row_kind {w : World} {B : Nat} {e : TypeId} {size : Nat} {v : Value} {n : Nat} {xs : List Value} (h : w.ownsRow B e size v n xs) {g : Nat} (hg : v.ownBlock = some g) : ∃ cs, w.heap[g]? = some (.cells cs e (0, 0)) := by
  rcases h.2 with ⟨rfl, _⟩ | ⟨g', cap, cur, rfl, _, hh, _⟩
  · cases hg
  · have : g' = g := by simpa [Value.ownBlock] using hg
    subst this
    exact ⟨cur, hh⟩
/-- A tree beside a row of numbers that grows. -/
theorem FSAt.row {w w' : World} {A : FSA} (h : FSAt w A) {B : Nat} {v : Value} {n : Nat} {xs : List Value} (hr : w.ownsRow B 3 1 v n xs) (hg : w.grownBy w' v.ownBlock) : FSAt w' A := by
  refine h.keep (fun b hb => hg.block b (h.owns_lt hb) fun e => ?_) (fun g cs t fr ht hh => (hg.block g (heap_lt hh) fun e => ?_).trans hh)
  · obtain ⟨cs, hk⟩ := row_kind hr e.symm
    exact h.not_own b cs _ _ (by decide) (by decide) hk hb
  · obtain ⟨cs', hk⟩ := row_kind hr e.symm
    rw [hk] at hh
    injection hh with hh
    injection hh with _ e2 _
    subst e2
    rcases ht with e3 | e3
    · exact absurd (show 3 = 5 from e3) (by decide)
    · cases e3
/-- A row of numbers beside a tree that turns. -/
theorem row_frm {w w' : World} {A : FSA} (h : FSAt w A) {B : Nat} {v : Value} {n : Nat} {xs : List Value} (hr : w.ownsRow B 3 1 v n xs) (hf : Frm A.owns w w') : w'.ownsRow B 3 1 v n xs := by
  refine ⟨hr.1, ?_⟩
  rcases hr.2 with h2 | ⟨g, cap, cur, hv, hg, hh, r⟩
  · exact .inl h2
  · exact .inr ⟨g, cap, cur, hv, hg, (hf.blk g (heap_lt hh) (h.not_own g cur _ _ (by decide) (by decide) hh)).trans hh, r⟩

theorem FSAt.nm_ne {w : World} {A : FSA} (h : FSAt w A) {i j : Int} {r s : NodeR} (hr : A.node? i = some r) (hs : A.node? j = some s) (hij : i ≠ j) {b : Nat} (hb : r.nm = some b) : s.nm ≠ some b := by
  intro hb2
  have := nm_inj (List.nodup_cons.1 h.nms).2 (h.mem hr) (h.mem hs) hb hb2
  exact hij (congrArg Prod.fst this)
theorem FSAt.blk_ne {w : World} {A : FSA} (h : FSAt w A) {i j : Int} {r s : NodeR} (hr : A.node? i = some r) (hs : A.node? j = some s) (hij : i ≠ j) : r.blk ≠ s.blk := by
  intro hb
  have := blk_inj h.blks (h.mem hr) (h.mem hs) hb
  exact hij (congrArg Prod.fst this)

def sD : ByteArray := ⟨#[100]⟩
def sE : ByteArray := ⟨#[101]⟩
/-- A chain of k directories below the root. -/
structure Chain (A : FSA) (k : Nat) (base : Nat) : Prop where
  next : A.next = k + 2
  len : A.nodes.length = k + 1
  clock : A.clock = k
  above : A.above base
  fresh : ∀ p ∈ A.nodes, p.1 < A.next
  nodes : ∀ m : Nat, m ≤ k → ∃ r, A.node? (m + 1) = some r ∧ r.n.kind = 6 ∧ r.names = (if m < k then [(sD, (m : Int) + 2)] else []) ∧ r.up = m

theorem Chain.new (b : Nat) (q : Int) : Chain (FSA.new b q) 0 b := by
  refine ⟨rfl, rfl, rfl, new_above b q, by intro p hp; simp [FSA.new] at hp; subst hp; show (1 : Int) < 2; omega, fun m hm => ?_⟩
  obtain rfl : m = 0 := by omega
  exact ⟨_, rfl, rfl, rfl, rfl⟩
theorem nodeB_dir (mode : Int) (h : 0 ≤ mode ∧ mode ≤ 4095) : nodeB 6 mode 0 0 ⟨#[]⟩ 0 0 0 0 0 = true := by
  simp [nodeB, ownB, bareOk, inB]; exact h
theorem Chain.makeErr {A : FSA} {k b : Nat} (h : Chain A k b) (hk : k < 100) : A.makeErr (k + 1) sD ⟨6, 7, 0, 0, 0, ⟨#[]⟩, 0, 0, 0, 0, 0⟩ = 0 := by
  obtain ⟨r, hr, h6, hn, _⟩ := h.nodes k (Nat.le_refl _)
  have hn' : r.names = [] := by rw [hn, if_neg (by omega)]
  have hl := h.len
  have hok : nameOk sD = true := ok_d
  have hnb := nodeB_dir 7 ⟨by omega, by omega⟩
  have h1000 : ¬ 1000 ≤ A.nodes.length := by omega
  simp [FSA.makeErr, FSA.placeErr, hr, h6, hok, hnb, hn', look_nil, h1000]
theorem Chain.made {w w0 : World} {A : FSA} {k b : Nat} (hA : FSAt w A) (h : Chain A k b) {db nb xb : Nat} {xm : Option Nat} (hb : Below b w0 w) (hs : b ≤ w0.heap.size) (hx1 : w.heap.size ≤ xb) (hx2 : ∀ y, xm = some y → w.heap.size ≤ y) (hd : ∃ r, A.node? (k + 1) = some r ∧ r.blk = db ∧ r.nm = some nb) :
    Chain (A.made (k + 1) sD ⟨6, 7, 0, 0, 0, ⟨#[]⟩, 0, 0, 0, 0, 0⟩ db nb xb xm) (k + 1) b := by
  obtain ⟨d, hd1, hd2, hd3⟩ := hd
  have hxm : xm ≠ some nb := by
    intro e
    have h1 := hx2 nb e
    have h2 := hA.owns_lt (b := nb) (.inr (.inr (.inr (List.mem_filterMap.2 ⟨_, hA.mem hd1, hd3⟩))))
    omega
  obtain ⟨a1, a2, a3, a4, a5, a6⟩ := made_rest A (k + 1) sD ⟨6, 7, 0, 0, 0, ⟨#[]⟩, 0, 0, 0, 0, 0⟩ db nb xb xm
  have hbs := hb.size
  refine ⟨?_, ?_, ?_, h.above.made (w := w) (by omega) hx1 hx2, ?_, ?_⟩
  · rw [a2, h.next]; push_cast; omega
  · have := congrArg List.length a6
    simp only [List.length_map, List.length_append, List.length_singleton] at this
    rw [this, h.len]
  · rw [a5, h.clock]; push_cast; rfl
  · intro p hp
    have : p.1 ∈ (A.made (k + 1) sD ⟨6, 7, 0, 0, 0, ⟨#[]⟩, 0, 0, 0, 0, 0⟩ db nb xb xm).nodes.map (·.1) := List.mem_map.2 ⟨p, hp, rfl⟩
    rw [a6] at this
    rw [a2]
    rcases List.mem_append.1 this with e | e
    · obtain ⟨q, hq, e2⟩ := List.mem_map.1 e
      have := h.fresh q hq
      omega
    · have : p.1 = A.next := by simpa using e
      omega
  · intro m hm
    have hc := made_core A (k + 1) sD ⟨6, 7, 0, 0, 0, ⟨#[]⟩, 0, 0, 0, 0, 0⟩ db nb xb xm hxm h.fresh (m + 1)
    by_cases e : m = k + 1
    · subst e
      rw [if_pos (by rw [h.next]; push_cast; omega)] at hc
      obtain ⟨r, e1, e2⟩ := node_of_core hc
      refine ⟨r, e1, congrArg Core.kind e2, ?_, ?_⟩
      · rw [if_neg (by omega)]; exact congrArg Core.names e2
      · rw [show r.up = _ from congrArg Core.up e2]; push_cast; rfl
    · rw [if_neg (by rw [h.next]; omega)] at hc
      obtain ⟨s, hs1, hs2, hs3, hs4⟩ := h.nodes m (by omega)
      rw [hs1, Option.map_some] at hc
      obtain ⟨r, e1, e2⟩ := node_of_core hc
      refine ⟨r, e1, ?_, ?_, ?_⟩
      · rw [show r.n.kind = _ from congrArg Core.kind e2]; exact hs2
      · rw [show r.names = _ from congrArg Core.names e2, if_pos (show m < k + 1 by omega)]
        dsimp only
        by_cases e3 : m = k
        · subst e3
          have : s = d := by rw [hs1] at hd1; exact Option.some.inj hd1
          subst this
          rw [if_pos hd3, hs3, if_neg (by omega), h.next]; rfl
        · rw [if_neg (hA.nm_ne hd1 hs1 (by omega) hd3), hs3, if_pos (by omega)]
      · rw [show r.up = _ from congrArg Core.up e2]; exact hs4
/-- The way up a chain. -/
theorem Chain.climb {A : FSA} {k b : Nat} (h : Chain A k b) (of : Nat) (hof : 2 ≤ of) : ∀ m : Nat, m ≤ k → A.climb of (m + 2) (m + 1) = some (decide (of ≤ m + 1)) := by
  intro m
  induction m with
  | zero =>
    intro _
    show (if _ then _ else _) = _
    rw [if_neg (by omega), if_pos (by omega)]
    have : ¬ of ≤ 0 + 1 := by omega
    simp [this]
  | succ m ih =>
    intro hm
    show (if _ then _ else _) = _
    by_cases e : ((m + 1 : Nat) : Int) + 1 = (of : Int)
    · rw [if_pos e]
      have : of ≤ m + 1 + 1 := by omega
      simp [this]
    · rw [if_neg e, if_neg (by omega)]
      obtain ⟨r, hr, _, _, hu⟩ := h.nodes (m + 1) hm
      rw [hr]
      dsimp only
      rw [hu, show ((m + 1 : Nat) : Int) = (m : Int) + 1 by push_cast; rfl, ih (by omega)]
      congr 1
      rw [decide_eq_decide]
      omega
def nmR (b : Nat) (g : List (ByteArray × Int) → List (ByteArray × Int)) (r : NodeR) : NodeR := if r.nm = some b then { r with names := g r.names } else r
theorem nmR_rest (b : Nat) (g : List (ByteArray × Int) → List (ByteArray × Int)) (r : NodeR) : (nmR b g r).nm = r.nm ∧ (nmR b g r).n = r.n ∧ (nmR b g r).blk = r.blk ∧ (nmR b g r).names = if r.nm = some b then g r.names else r.names := by
  unfold nmR
  split <;> exact ⟨rfl, rfl, rfl, rfl⟩
def mvR (x : NodeR) (to : Int) (db tb : Nat) (part as_ : ByteArray) (ino : Int) (r : NodeR) : NodeR :=
  nmR tb (fun l => l ++ [(as_, ino)]) (nmR db (fun l => l.filter fun p => !decide (p.1 = part)) (if r.blk = x.blk then setUp to r else r))
theorem mvR_rest (x : NodeR) (to : Int) (db tb : Nat) (part as_ : ByteArray) (ino : Int) (r : NodeR) :
    (mvR x to db tb part as_ ino r).nm = r.nm ∧ (mvR x to db tb part as_ ino r).n = r.n ∧ (mvR x to db tb part as_ ino r).blk = r.blk ∧
      (mvR x to db tb part as_ ino r).names = (if r.nm = some tb then (if r.nm = some db then r.names.filter (fun p => !decide (p.1 = part)) else r.names) ++ [(as_, ino)] else if r.nm = some db then r.names.filter (fun p => !decide (p.1 = part)) else r.names) := by
  have h0 : (if r.blk = x.blk then setUp to r else r).nm = r.nm ∧ (if r.blk = x.blk then setUp to r else r).n = r.n ∧ (if r.blk = x.blk then setUp to r else r).blk = r.blk ∧ (if r.blk = x.blk then setUp to r else r).names = r.names := by
    split <;> exact ⟨rfl, rfl, rfl, rfl⟩
  obtain ⟨a1, a2, a3, a4⟩ := nmR_rest db (fun l => l.filter fun p => !decide (p.1 = part)) (if r.blk = x.blk then setUp to r else r)
  obtain ⟨b1, b2, b3, b4⟩ := nmR_rest tb (fun l => l ++ [(as_, ino)]) (nmR db (fun l => l.filter fun p => !decide (p.1 = part)) (if r.blk = x.blk then setUp to r else r))
  refine ⟨b1.trans (a1.trans h0.1), b2.trans (a2.trans h0.2.1), b3.trans (a3.trans h0.2.2.1), ?_⟩
  unfold mvR
  rw [b4, a4, a1, h0.1, h0.2.2.2]
theorem moved_node {A : FSA} {d t x : NodeR} {db tb : Nat} {part as_ : ByteArray} {to ino : Int} (hx : x.n.kind = 6) (k : Int) :
    (A.moved d t x db tb part as_ to ino).node? k = (A.node? k).map fun r => tickR (A.clock + 1) [d.blk, t.blk] [x.blk] (mvR x to db tb part as_ ino r) := by
  unfold FSA.moved
  rw [if_pos hx, tick_node, updN_node, updN_node, updB_node]
  cases A.node? k with
  | none => rfl
  | some r => rfl
theorem moved_rest {A : FSA} {d t x : NodeR} {db tb : Nat} {part as_ : ByteArray} {to ino : Int} (hx : x.n.kind = 6) :
    (A.moved d t x db tb part as_ to ino).fb = A.fb ∧ (A.moved d t x db tb part as_ to ino).clock = A.clock + 1 ∧ (A.moved d t x db tb part as_ to ino).owns = A.owns := by
  unfold FSA.moved
  rw [if_pos hx]
  obtain ⟨a1, a2, a3, a4, a5, a6⟩ := tick_rest (((A.updB x.blk (setUp to)).updN db fun l => l.filter fun p => !decide (p.1 = part)).updN tb fun l => l ++ [(as_, ino)]) [d.blk, t.blk] [x.blk]
  refine ⟨a1, a6, ?_⟩
  rw [tick_owns, updN_owns, updN_owns]
  exact updB_owns (f := setUp to) _ (fun _ => rfl) (fun _ => rfl)
theorem find_of {A : FSA} {k : Int} {r : NodeR} {part : ByteArray} (hr : A.node? k = some r) (h6 : r.n.kind = 6) (ho : nameOk part = true) : A.find k part = match look r.names part with | some i => (i, 0) | none => (0, 10) := by
  unfold FSA.find FSA.placeErr
  simp only [hr, h6, ho]
  cases look r.names part <;> simp
theorem ok_sd : nameOk sD = true := ok_d
theorem ok_se : nameOk sE = true := ok_e
theorem sDE : sD ≠ sE := by decide

/-- Move into its own tree. -/
theorem Chain.loops {w : World} {A : FSA} {k b I J : Nat} (hA : FSAt w A) (h : Chain A k b) (hI : I < k) (hJ : J < k) (hIJ : I ≤ J) :
    Calls Try.prog 11 #[A.fp, .int .i64 ((I : Int) + 1), .string sD, .int .i64 ((J : Int) + 2), .string sE] w fun e w' => e = .returned (.int .i64 13) ∧ Below w.heap.size w w' := by
  obtain ⟨d, hd, d6, dn, _⟩ := h.nodes I (by omega)
  obtain ⟨t, ht, t6, tn, _⟩ := h.nodes (J + 1) (by omega)
  obtain ⟨x, hx, x6, _, _⟩ := h.nodes (I + 1) (by omega)
  have e1 : ((J + 1 : Nat) : Int) + 1 = (J : Int) + 2 := by omega
  have e2 : ((I + 1 : Nat) : Int) + 1 = (I : Int) + 2 := by omega
  rw [e1] at ht
  rw [e2] at hx
  have hc := h.climb (I + 2) (by omega) (J + 1) (by omega)
  rw [e1, decide_eq_true (show I + 2 ≤ J + 1 + 1 by omega), show ((I + 2 : Nat) : Int) = (I : Int) + 2 by omega] at hc
  refine move_e6 hA hd ht d6 t6 ok_sd ok_se (ino := (I : Int) + 2) ?_ ?_ hx x6 hc
  · rw [dn, if_pos hI]; rfl
  · rw [tn]
    split
    · rw [look_cons, if_neg sDE]; rfl
    · rfl
/-- What Move makes of the tree. -/
structure Moved (A A' : FSA) (I J : Nat) : Prop where
  fb : A'.fb = A.fb
  clock : A'.clock = A.clock + 1
  owns : A'.owns = A.owns
  there : A'.find ((J : Int) + 2) sE = ((I : Int) + 2, 0)
  gone : I ≠ J + 1 → A'.find ((I : Int) + 1) sD = (0, 10)
  mark : ∃ x, A'.node? ((I : Int) + 2) = some x ∧ x.n.change = A.clock + 1
theorem Chain.moves {w : World} {A : FSA} {k b I J : Nat} (hA : FSAt w A) (h : Chain A k b) (hI : I < k) (hJI : J < I) (hk : k < 1000) :
    Calls Try.prog 11 #[A.fp, .int .i64 ((I : Int) + 1), .string sD, .int .i64 ((J : Int) + 2), .string sE] w fun e w' => e = .returned (.int .i64 0) ∧ ∃ A', FSAt w' A' ∧ Moved A A' I J ∧ Frm A.owns w w' := by
  obtain ⟨d, hd, d6, dn, _⟩ := h.nodes I (by omega)
  obtain ⟨t, ht, t6, tn, _⟩ := h.nodes (J + 1) (by omega)
  obtain ⟨x, hx, x6, _, _⟩ := h.nodes (I + 1) (by omega)
  have e1 : ((J + 1 : Nat) : Int) + 1 = (J : Int) + 2 := by omega
  have e2 : ((I + 1 : Nat) : Int) + 1 = (I : Int) + 2 := by omega
  rw [e1] at ht
  rw [e2] at hx
  have hc := h.climb (I + 2) (by omega) (J + 1) (by omega)
  rw [e1, decide_eq_false (show ¬ I + 2 ≤ J + 1 + 1 by omega), show ((I + 2 : Nat) : Int) = (I : Int) + 2 by omega] at hc
  have htn : look t.names sE = none := by
    rw [tn]
    split
    · rw [look_cons, if_neg sDE]; rfl
    · rfl
  refine (move_dir hA hd ht d6 t6 ok_sd ok_se (ino := (I : Int) + 2) (by rw [dn, if_pos hI]; rfl) htn hx x6 hc (by rw [h.clock]; omega) (by rw [h.clock]; omega)).mono ?_
  rintro e w' ⟨rfl, db, tb, hdb, htb, h', hf⟩
  refine ⟨rfl, _, h', ?_, hf⟩
  obtain ⟨a1, a2, a3⟩ := moved_rest (A := A) (d := d) (t := t) (db := db) (tb := tb) (part := sD) (as_ := sE) (to := (J : Int) + 2) (ino := (I : Int) + 2) x6
  refine ⟨a1, a2, a3, ?_, fun hne => ?_, ?_⟩
  · have hn := moved_node (A := A) (d := d) (t := t) (db := db) (tb := tb) (part := sD) (as_ := sE) (to := (J : Int) + 2) (ino := (I : Int) + 2) x6 ((J : Int) + 2)
    rw [ht, Option.map_some] at hn
    obtain ⟨m1, m2, m3, m4⟩ := mvR_rest x ((J : Int) + 2) db tb sD sE ((I : Int) + 2) t
    have hco := tickR_core (A.clock + 1) [d.blk, t.blk] [x.blk] (mvR x ((J : Int) + 2) db tb sD sE ((I : Int) + 2) t)
    rw [find_of hn ((congrArg Core.kind hco).trans ((congrArg ANode.kind m2).trans t6)) ok_se, show (tickR _ _ _ _).names = _ from congrArg Core.names hco]
    rw [show (mvR x ((J : Int) + 2) db tb sD sE ((I : Int) + 2) t).core.names = _ from m4, if_pos htb]
    have hno : sE ∉ (if t.nm = some db then t.names.filter (fun p => !decide (p.1 = sD)) else t.names).map (·.1) := by
      intro hm
      have : sE ∈ t.names.map (·.1) := by
        split at hm
        · obtain ⟨p, hp, hp2⟩ := List.mem_map.1 hm
          exact List.mem_map.2 ⟨p, (List.mem_filter.1 hp).1, hp2⟩
        · exact hm
      exact look_none.1 htn this
    rw [look_append_new _ _ _ _ hno, if_pos rfl]
  · have hn := moved_node (A := A) (d := d) (t := t) (db := db) (tb := tb) (part := sD) (as_ := sE) (to := (J : Int) + 2) (ino := (I : Int) + 2) x6 ((I : Int) + 1)
    rw [hd, Option.map_some] at hn
    obtain ⟨m1, m2, m3, m4⟩ := mvR_rest x ((J : Int) + 2) db tb sD sE ((I : Int) + 2) d
    have hco := tickR_core (A.clock + 1) [d.blk, t.blk] [x.blk] (mvR x ((J : Int) + 2) db tb sD sE ((I : Int) + 2) d)
    rw [find_of hn ((congrArg Core.kind hco).trans ((congrArg ANode.kind m2).trans d6)) ok_sd, show (tickR _ _ _ _).names = _ from congrArg Core.names hco]
    rw [show (mvR x ((J : Int) + 2) db tb sD sE ((I : Int) + 2) d).core.names = _ from m4, if_neg (hA.nm_ne ht hd (by omega) htb), if_pos hdb, look_filter, if_pos rfl]
  · have hn := moved_node (A := A) (d := d) (t := t) (db := db) (tb := tb) (part := sD) (as_ := sE) (to := (J : Int) + 2) (ino := (I : Int) + 2) x6 ((I : Int) + 2)
    rw [hx, Option.map_some] at hn
    obtain ⟨m1, m2, m3, m4⟩ := mvR_rest x ((J : Int) + 2) db tb sD sE ((I : Int) + 2) x
    exact ⟨_, hn, tickR_change (.inr (by rw [m3]; simp))⟩
end Go.Proofs.Ytccfimgpbmkpiaa
