/- TreeFull: one pipe is taken away, a directory made, and no more. No conditions. -/
import Derived.Test.YtccfimgpbmkpiaaCrowd
namespace Go.Proofs.Ytccfimgpbmkpiaa
set_option linter.unusedVariables false
set_option linter.unusedSimpArgs false
set_option maxRecDepth 100000
open Go.RowKit Go.MapKept

def sMore : ByteArray := ⟨#[109, 111, 114, 101]⟩
def sYet : ByteArray := ⟨#[121, 101, 116, 32, 109, 111, 114, 101]⟩
def dirN : ANode := ⟨6, 0, 0, 0, 0, ⟨#[]⟩, 0, 0, 0, 0, 0⟩
theorem sMore_ok : nameOk sMore = true := by kernel_rfl
theorem sYet_ok : nameOk sYet = true := by kernel_rfl
theorem sMore_head : sMore.data.toList.head? ≠ some 110 := by decide
theorem nodeB_dir0 : nodeB 6 0 0 0 ⟨#[]⟩ 0 0 0 0 0 = true := by kernel_rfl

theorem crowdN_look : ∀ {m i : Nat}, i < m → look (crowdN m) (numS 110 (i + 2)) = some ((i + 2 : Nat) : Int)
  | 0, _, h => absurd h (by omega)
  | m + 1, i, h => by
    rw [crowdN_succ, look_append_new _ _ _ _ (look_none.1 (crowdN_new (Nat.le_refl _)))]
    by_cases e : i = m
    · subst e
      rw [if_pos rfl]
    · rw [if_neg fun e2 => e (by have := numS_inj e2; omega), crowdN_look (by omega)]
theorem crowdN_rm_len {m i : Nat} (h : i < m) : ((crowdN m).filter fun p => !decide (p.1 = numS 110 (i + 2))).length + 1 = m := by
  induction m with
  | zero => omega
  | succ m ih =>
    rw [crowdN_succ, List.filter_append, List.length_append]
    by_cases e : i = m
    · subst e
      have : (crowdN i).filter (fun p => !decide (p.1 = numS 110 (i + 2))) = crowdN i := by
        rw [List.filter_eq_self]
        intro p hp
        obtain ⟨j, hj, rfl⟩ := List.mem_map.1 hp
        have := List.mem_range.1 hj
        have : numS 110 (j + 2) ≠ numS 110 (i + 2) := fun e => by have := numS_inj e; omega
        simp [this]
      rw [this]
      simp [crowdN]
    · have h1 := ih (by omega)
      have : numS 110 (m + 2) ≠ numS 110 (i + 2) := fun e => by have := numS_inj e; omega
      simp [this]
      omega

/-- One of 999 pipes has gone. -/
structure Less (A : FSA) (base : Nat) : Prop where
  above : A.above base
  next : A.next = 1001
  len : A.nodes.length = 999
  clock : A.clock = 1000
  fresh : ∀ p ∈ A.nodes, p.1 < A.next
  root : ∃ d, A.node? 1 = some d ∧ d.n.kind = 6 ∧ d.names.length = 998 ∧ look d.names sMore = none ∧ ∀ p ∈ d.names, p.1.size ≤ 255
theorem look_rm_none {l : List (ByteArray × Int)} {s t : ByteArray} (h : look l s = none) : look (l.filter fun p => !decide (p.1 = t)) s = none := by
  rw [look_none] at h ⊢
  intro hm
  obtain ⟨p, hp, e⟩ := List.mem_map.1 hm
  exact h (List.mem_map.2 ⟨p, (List.mem_filter.1 hp).1, e⟩)
theorem keys_rm_len : ∀ {n i : Nat}, i < n → (((List.range n).map fun i => ((i + 1 : Nat) : Int)).filter fun k => !decide (k = ((i + 1 : Nat) : Int))).length + 1 = n
  | 0, _, h => absurd h (by omega)
  | n + 1, i, h => by
    rw [List.range_succ, List.map_append, List.filter_append, List.length_append]
    by_cases e : i = n
    · subst e
      have : ((List.range i).map fun i => ((i + 1 : Nat) : Int)).filter (fun k => !decide (k = ((i + 1 : Nat) : Int))) = (List.range i).map fun i => ((i + 1 : Nat) : Int) := by
        rw [List.filter_eq_self]
        intro p hp
        obtain ⟨j, hj, rfl⟩ := List.mem_map.1 hp
        have := List.mem_range.1 hj
        have : ((j + 1 : Nat) : Int) ≠ ((i + 1 : Nat) : Int) := by omega
        simp only [this, decide_false, Bool.not_false]
      rw [this]
      simp
    · have h1 := keys_rm_len (n := n) (i := i) (by omega)
      have : ((n + 1 : Nat) : Int) ≠ ((i + 1 : Nat) : Int) := by omega
      simp only [List.map_cons, List.map_nil, List.filter_cons, this, decide_false, Bool.not_false, if_true, List.filter_nil, List.length_singleton]
      omega
theorem crowd_remove {w w0 : World} {A : FSA} {b i : Nat} (h : FSAt w A) (hC : Crowd A 999 b) (hi : i < 999) (hb : Below b w0 w) (hs : b ≤ w0.heap.size) :
    Calls Try.prog 18 #[A.fp, .int .i64 1, .string (numS 110 (i + 2))] w fun e w' => ∃ A1, e = .returned (.int .i64 0) ∧ FSAt w' A1 ∧ Less A1 b ∧ Below b w0 w' ∧ A1.fb = A.fb := by
  obtain ⟨d, hd, d6, dn⟩ := hC.root
  obtain ⟨x, hx, xl, xm, xp⟩ := hC.pipe i hi
  have hpl : x.plen = 0 := by rw [← (h.at_ hx).pcs.1, xp]; rfl
  have hlk : look d.names (numS 110 (i + 2)) = some ((i + 2 : Nat) : Int) := by rw [dn]; exact crowdN_look hi
  refine (remove_ok h hd d6 (numS_ok (.inl rfl) (by omega)) hlk hx xm (by omega) (by omega) (by rw [hC.clock]; omega) (by rw [hC.clock]; omega) (by omega) (by rw [xp]; decide) (by rw [hC.used]; omega) (by rw [hC.used]; omega)).mono ?_
  rintro e w' ⟨rfl, nb, hnb, h1, hf⟩
  obtain ⟨a1, a2, a3, a4, a5, a6, a7⟩ := removed_rest0 A d x nb (numS 110 (i + 2)) ((i + 2 : Nat) : Int) xl
  have hn := removed_node0 A d x nb (numS 110 (i + 2)) ((i + 2 : Nat) : Int) 1 xl
  rw [if_neg (by omega), hd, Option.map_some] at hn
  obtain ⟨r1, r2⟩ := lnR_rest x (x.n.links - 1) nb (fun l => l.filter fun p => !decide (p.1 = numS 110 (i + 2))) d
  have c1 := (tickR_core (A.clock + 1) [d.blk] [x.blk] _).trans r1
  have hkl := congrArg List.length a6
  rw [List.length_map, hC.keys] at hkl
  have hkl2 := keys_rm_len (n := 999 + 1) (i := i + 1) (by omega)
  have hnm := congrArg Core.names c1
  have hcr := crowdN_rm_len (m := 999) hi
  refine ⟨_, rfl, h1, ⟨fun y hy => hC.above y (a7 y hy), a2.trans (by rw [hC.next]; rfl), hkl.trans (Nat.succ.inj hkl2), by rw [a5, hC.clock]; rfl, ?_, ⟨_, hn, ?_, ?_, ?_, ?_⟩⟩, hC.above.frm hf hb hs, a1⟩
  · intro p hp
    have : p.1 ∈ (A.removed d x nb (numS 110 (i + 2)) ((i + 2 : Nat) : Int)).nodes.map (·.1) := List.mem_map.2 ⟨p, hp, rfl⟩
    rw [a6] at this
    obtain ⟨q, hq, e⟩ := List.mem_map.1 ((List.mem_filter.1 this).1)
    rw [a2, ← e]
    exact hC.fresh q hq
  · exact (congrArg Core.kind c1).trans d6
  · have e2 : (tickR (A.clock + 1) [d.blk] [x.blk] (lnR x (x.n.links - 1) nb (fun l => l.filter fun p => !decide (p.1 = numS 110 (i + 2))) d)).names = d.names.filter fun p => !decide (p.1 = numS 110 (i + 2)) := by
      refine hnm.trans ?_
      show (if d.nm = some nb then d.names.filter (fun p => !decide (p.1 = numS 110 (i + 2))) else d.names) = _
      rw [if_pos hnb]
    rw [e2, dn]; omega
  · have e2 : (tickR (A.clock + 1) [d.blk] [x.blk] (lnR x (x.n.links - 1) nb (fun l => l.filter fun p => !decide (p.1 = numS 110 (i + 2))) d)).names = d.names.filter fun p => !decide (p.1 = numS 110 (i + 2)) := by
      refine hnm.trans ?_
      show (if d.nm = some nb then d.names.filter (fun p => !decide (p.1 = numS 110 (i + 2))) else d.names) = _
      rw [if_pos hnb]
    rw [e2, dn]; exact look_rm_none (crowdN_other sMore_head)
  · have e2 : (tickR (A.clock + 1) [d.blk] [x.blk] (lnR x (x.n.links - 1) nb (fun l => l.filter fun p => !decide (p.1 = numS 110 (i + 2))) d)).names = d.names.filter fun p => !decide (p.1 = numS 110 (i + 2)) := by
      refine hnm.trans ?_
      show (if d.nm = some nb then d.names.filter (fun p => !decide (p.1 = numS 110 (i + 2))) else d.names) = _
      rw [if_pos hnb]
    rw [e2, dn]
    intro p hp
    obtain ⟨j, hj, rfl⟩ := List.mem_map.1 (List.mem_filter.1 hp).1
    have := List.mem_range.1 hj
    have h1 := numS_size 110 (j + 2)
    have h2 := dg_len19 (n := j + 2) (by omega)
    show (numS 110 (j + 2)).size ≤ 255
    omega

theorem Less.makeErr {A : FSA} {base : Nat} (h : Less A base) : A.makeErr 1 sMore dirN = 0 := by
  obtain ⟨r, hr, h6, hn, hl, _⟩ := h.root
  have hle := h.len
  have hok := sMore_ok
  have hnb := nodeB_dir0
  have h1000 : ¬ 1000 ≤ A.nodes.length := by omega
  simp [FSA.makeErr, FSA.placeErr, dirN, hr, h6, hok, hnb, hl, h1000]
/-- A directory for a pipe. -/
structure Last (A : FSA) (base : Nat) : Prop where
  above : A.above base
  len : A.nodes.length = 1000
  root : ∃ d, A.node? 1 = some d ∧ d.n.kind = 6 ∧ d.names.length = 999 ∧ ∀ p ∈ d.names, p.1.size ≤ 255
  dir : ∃ d, A.node? 1001 = some d ∧ d.n.kind = 6 ∧ d.names = []
theorem Last.makeErr {A : FSA} {base : Nat} (h : Last A base) : A.makeErr 1001 sYet pipeN = 14 := by
  obtain ⟨r, hr, h6, hn⟩ := h.dir
  have hle := h.len
  have hok := sYet_ok
  have hnb := nodeB_pipe
  have h1000 : 1000 ≤ A.nodes.length := by omega
  simp [FSA.makeErr, FSA.placeErr, pipeN, hr, h6, hok, hnb, hn, look_nil, h1000]
theorem less_make {w w0 : World} {A : FSA} {b : Nat} (h : FSAt w A) (hL : Less A b) (hb : Below b w0 w) (hs : b ≤ w0.heap.size) :
    Calls Try.prog 9 #[A.fp, .int .i64 1, .string sMore, dirN.val] w fun e w' =>
      ∃ A1, e = .returned (.tuple #[.int .i64 1001, .int .i64 0]) ∧ FSAt w' A1 ∧ Last A1 b ∧ Below b w0 w' ∧ A1.fb = A.fb := by
  obtain ⟨db, hmk⟩ := make_ok h 1 sMore dirN hL.makeErr hL.fresh (by rw [hL.next]; omega) (by rw [hL.next]; omega) (by rw [hL.clock]; omega) (by rw [hL.clock]; omega)
  refine hmk.mono ?_
  rintro e w' ⟨rfl, nb, xb, xm, h1, hx1, hx2, hx3, ⟨d, hd1, hd2, hd3⟩, hf⟩
  have hxm : xm ≠ some nb := by
    intro e
    have h1 := hx2 nb e
    have h2 := h.owns_lt (b := nb) (.inr (.inr (.inr (List.mem_filterMap.2 ⟨_, h.mem hd1, hd3⟩))))
    omega
  obtain ⟨a1, a2, a3, a4, a5, a6⟩ := made_rest A 1 sMore dirN db nb xb xm
  have hc := made_core A 1 sMore dirN db nb xb xm hxm hL.fresh
  have hc1 := hc 1
  have hc2 := hc 1001
  obtain ⟨d', hd', d6, dn, dl, dz⟩ := hL.root
  obtain rfl : d' = d := by rw [hd'] at hd1; exact Option.some.inj hd1
  rw [if_neg (by rw [hL.next]; omega), hd', Option.map_some, if_pos hd3] at hc1
  rw [if_pos hL.next] at hc2
  obtain ⟨r, e1, e2⟩ := node_of_core hc1
  obtain ⟨s, f1, f2⟩ := node_of_core hc2
  have hbs := hb.size
  refine ⟨_, by rw [hL.next], h1, ⟨hL.above.made (w := w) (by omega) hx1 hx2, ?_, ⟨r, e1, (congrArg Core.kind e2).trans d6, ?_, ?_⟩, ⟨s, f1, congrArg Core.kind f2, congrArg Core.names f2⟩⟩, hL.above.frm hf hb hs, a1⟩
  · have := congrArg List.length a6
    simp only [List.length_map, List.length_append, List.length_singleton] at this
    rw [this, hL.len]
  · rw [show r.names = _ from congrArg Core.names e2]
    dsimp only
    rw [List.length_append, dn]; rfl
  · rw [show r.names = _ from congrArg Core.names e2]
    intro p hp
    rcases List.mem_append.1 hp with hp | hp
    · exact dz p hp
    · obtain rfl := List.mem_singleton.1 hp
      show sMore.size ≤ 255
      decide
end Go.Proofs.Ytccfimgpbmkpiaa
