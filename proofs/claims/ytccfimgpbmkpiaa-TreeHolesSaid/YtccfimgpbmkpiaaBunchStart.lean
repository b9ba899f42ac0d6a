/- A file is made in a new tree and written: what the tree is then. Conditions: at most 100 bytes. -/
import Derived.Test.YtccfimgpbmkpiaaBunch
import Derived.Test.YtccfimgpbmkpiaaAwake
namespace Go.Proofs.Ytccfimgpbmkpiaa
set_option linter.unusedVariables false
set_option linter.unusedSimpArgs false
set_option maxRecDepth 100000
open Go.RowKit Go.MapKept

def n0 : ByteArray := ⟨#[110, 48]⟩
theorem bunch_makeErr (b : Nat) (q : Int) : (FSA.new b q).makeErr 1 n0 ⟨1, 0, 0, 0, 0, ⟨#[]⟩, 0, 0, 0, 0, 0⟩ = 0 := by kernel_rfl
theorem bunch_make {w w0 : World} {b : Nat} (h : FSAt w (FSA.new b 1000)) (hb : Below b w0 w) (hs : b ≤ w0.heap.size) :
    Calls Try.prog 9 #[(FSA.new b 1000).fp, .int .i64 1, .string n0, (⟨1, 0, 0, 0, 0, ⟨#[]⟩, 0, 0, 0, 0, 0⟩ : ANode).val] w fun e w' =>
      ∃ A1, e = .returned (.tuple #[.int .i64 2, .int .i64 0]) ∧ FSAt w' A1 ∧ Bunch A1 2 [n0] 0 1 b ∧ (∃ x, A1.node? 2 = some x ∧ x.pieces = []) ∧ Below b w0 w' ∧ A1.fb = (FSA.new b 1000).fb := by
  have hfr : ∀ p ∈ (FSA.new b 1000).nodes, p.1 < (FSA.new b 1000).next := by intro p hp; simp [FSA.new] at hp; subst hp; show (1 : Int) < 2; omega
  obtain ⟨db, hm⟩ := make_ok h 1 n0 ⟨1, 0, 0, 0, 0, ⟨#[]⟩, 0, 0, 0, 0, 0⟩ (bunch_makeErr b 1000) hfr (by show (0 : Int) ≤ 2; omega) (by show (2 : Int) < _; omega) (by show (0 : Int) ≤ 0; omega) (by show (0 : Int) < _; omega)
  refine hm.mono ?_
  rintro e w' ⟨rfl, nb, xb, xm, h1, hx1, hx2, hx3, ⟨r, hr, hr2, hr3⟩, hf⟩
  have hxn : xm = none := by
    cases xm with
    | none => rfl
    | some y => exact absurd (hx3.1 rfl) (by decide)
  subst hxn
  obtain ⟨a1, a2, a3, a4, a5, a6⟩ := made_rest (FSA.new b 1000) 1 n0 ⟨1, 0, 0, 0, 0, ⟨#[]⟩, 0, 0, 0, 0, 0⟩ db nb xb none
  have hc := made_core (FSA.new b 1000) 1 n0 ⟨1, 0, 0, 0, 0, ⟨#[]⟩, 0, 0, 0, 0, 0⟩ db nb xb none (by simp) hfr
  have hc2 := hc 2
  have hc1 := hc 1
  rw [if_pos (show (FSA.new b 1000).next = 2 from rfl)] at hc2
  rw [if_neg (show ¬ (FSA.new b 1000).next = 1 by show ¬ (2 : Int) = 1; omega), hr, Option.map_some, if_pos hr3] at hc1
  obtain ⟨x, e1, e2⟩ := node_of_core hc2
  obtain ⟨d, f1, f2⟩ := node_of_core hc1
  have hrr : r.n.kind = 6 ∧ r.names = [] := by
    have : (FSA.new b 1000).node? 1 = some { n := rootNode, nm := some b, names := [], pad := none, plen := 0, pcap := 0, pieces := [], up := 0, blk := b + 1 } := rfl
    rw [hr] at this
    rw [Option.some.inj this]
    exact ⟨rfl, rfl⟩
  have hbs := hb.size
  have hpc := (h1.at_ e1).pcs.1
  have hpp : x.pieces = [] := congrArg Core.pieces e2
  have hlk : x.n.links = 1 := by
    have hn2 : (FSA.made (FSA.new b 1000) 1 n0 ⟨1, 0, 0, 0, 0, ⟨#[]⟩, 0, 0, 0, 0, 0⟩ db nb xb none).node? 2 = some x := e1
    unfold FSA.made at hn2
    rw [tick_node, updN_node, addNode_node (A := { FSA.new b 1000 with next := (FSA.new b 1000).next + 1 }) _ _ _ (show (FSA.new b 1000).next ∉ (FSA.new b 1000).nodes.map (·.1) from next_new hfr), if_pos (show (FSA.new b 1000).next = 2 from rfl)] at hn2
    simp only [Option.map_some, Option.some.injEq] at hn2
    rw [← hn2, tickR_links]
    rfl
  refine ⟨_, rfl, h1, ⟨(new_above b 1000).made (w := w) (by omega) hx1 hx2, a2, a6, by omega, a5, a4, a3, by simp, ⟨d, f1, (congrArg Core.kind f2).trans hrr.1, ?_⟩, ⟨x, e1, congrArg Core.kind e2, hlk, congrArg Core.nm e2, by rw [hpp]; rfl, by rw [← hpc, hpp]; simp⟩⟩, ⟨x, e1, hpp⟩, (new_above b 1000).frm hf hb hs, a1⟩
  rw [show d.names = _ from congrArg Core.names f2, hrr.2]; rfl

theorem fits_all (n : Nat) (hn : n ≤ 100) : fitsL [] 0 n 1000 = ((n : Int), (n : Int)) := by
  have : fitsL [] 0 n 1000 = (0 + min (0 + (n : Int) - 0) (1000 - 0) - 0, 0 + min (0 + (n : Int) - 0) (1000 - 0)) := rfl
  rw [this]
  have e : min (0 + (n : Int) - 0) (1000 - 0) = n := by omega
  rw [e]
  congr 1 <;> omega
theorem wrote_links (A : FSA) (r : NodeR) (P : Option Addr) (n c : Nat) (ps : List CP) (sz more : Int) (k : Int) : ((A.wrote r P n c ps sz more).node? k).map (·.n.links) = (A.node? k).map (·.n.links) := by
  unfold FSA.wrote
  rw [tick_node]
  show Option.map _ (Option.map _ (((A.updB r.blk (setPcs P n c ps)).updB r.blk (setSize sz)).node? k)) = _
  rw [updB_node, updB_node]
  cases A.node? k with
  | none => rfl
  | some q =>
    simp only [Option.map_some, Option.some.injEq, tickR_links]
    by_cases e : q.blk = r.blk
    · have e2 : (setPcs P n c ps q).blk = r.blk := e
      rw [if_pos e, if_pos e2]; rfl
    · rw [if_neg e, if_neg e]
theorem wrote_keys (A : FSA) (r : NodeR) (P : Option Addr) (n c : Nat) (ps : List CP) (sz more : Int) : (A.wrote r P n c ps sz more).nodes.map (·.1) = A.nodes.map (·.1) := by
  unfold FSA.wrote
  rw [tick_keys]
  exact (updB_keys (f := setSize sz) r.blk).trans (updB_keys (f := setPcs P n c ps) r.blk)
theorem bunch_write {w w0 : World} {A : FSA} {b : Nat} (h : FSAt w A) (hB : Bunch A 2 [n0] 0 1 b) (hx : ∃ x, A.node? 2 = some x ∧ x.pieces = []) (hb : Below b w0 w) (hs : b ≤ w0.heap.size) {B : Option Addr} {n bc : Nat} {bs : List UInt8} (hby : BytesR w B n bc bs) (hn : n ≤ 100) :
    Calls Try.prog 15 #[A.fp, .int .i64 2, .int .i64 0, .slice B n bc] w fun e w' =>
      ∃ A1 c, e = .returned (.int .i64 0) ∧ FSAt w' A1 ∧ Bunch A1 2 [n0] n c b ∧ 0 ≤ c ∧ c ≤ 2 ∧ Below b w0 w' ∧ A1.fb = A.fb := by
  obtain ⟨x, hx, hxp⟩ := hx
  obtain ⟨d, hd, d6, dn⟩ := hB.root
  obtain ⟨x', hx', x1, xl, xn, xs, xp⟩ := hB.file
  obtain rfl : x' = x := by rw [hx] at hx'; exact (Option.some.inj hx').symm
  by_cases h0 : n = 0
  · subst h0
    refine (write_zero h hx x1 0 B bc (by omega) (by omega)).mono ?_
    rintro e w' ⟨rfl, rfl⟩
    exact ⟨A, 1, rfl, h, hB, by omega, by omega, hb, rfl⟩
  · refine (write_pos (K := n) (more := n) h hx x1 0 B n bc bs hby (by omega) (by omega) (by omega) (by omega) (lo := 0) (by rw [hxp]; exact fun p hp => by cases hp) (by rw [hxp]; trivial) (by rw [hB.used]; omega) (by rw [hB.used, hB.quota]; omega) (by rw [hB.quota]; omega) (by rw [hB.clock]; omega) (by rw [hB.clock]; omega) (by rw [hxp, hB.used, hB.quota]; exact fits_all n hn) (by omega) (Nat.le_refl _) (by omega) (by rw [hB.used, hB.quota]; omega)).mono ?_
    rintro e w' ⟨rfl, P, pn, pc, ps, hcon, h1, hfr⟩
    rw [hxp] at hcon
    have hcon2 : cont ps = [(0, bs)] := by
      rw [hcon, List.take_of_length_le (by rw [hby.1]; exact Nat.le_refl _)]; rfl
    obtain ⟨p, rfl, p1, p2⟩ := cont_one hcon2
    obtain ⟨a1, a2, a3, a4, a5⟩ := wrote_rest A x' P pn pc [p] (max x'.n.size (0 + n)) n
    have hc := wrote_core A x' P pn pc [p] (max x'.n.size (0 + n)) n
    have hc2 := hc 2
    have hc1 := hc 1
    rw [hx, Option.map_some, if_pos rfl] at hc2
    rw [hd, Option.map_some, if_neg (fun e => h.blk_ne hx hd (by omega) e.symm)] at hc1
    obtain ⟨y, e1, e2⟩ := node_of_core hc2
    obtain ⟨d2, f1, f2⟩ := node_of_core hc1
    have hyl := wrote_links A x' P pn pc [p] (max x'.n.size (0 + n)) n 2
    rw [e1, hx] at hyl
    simp only [Option.map_some, Option.some.injEq] at hyl
    have hyp := (h1.at_ e1).pcs
    have hy1 : y.pieces = [p] := congrArg Core.pieces e2
    rw [hy1] at hyp
    have hpl : p.len = n := by rw [← (hyp.2.2.2 p (by simp)).1, p2, hby.1]
    refine ⟨_, 2, by rw [if_neg (by omega)], h1, ⟨?_, a2.trans hB.next, (wrote_keys A x' P pn pc [p] _ _).trans hB.keys, hB.ne, by rw [a5, hB.clock]; rfl, by rw [a4, hB.used]; omega, a3.trans hB.quota, hB.nodup, ⟨d2, f1, ?_, ?_⟩, ⟨y, e1, ?_, ?_, ?_, ?_, ?_⟩⟩, by omega, by omega, hB.above.frm (hfr.mono ?_) hb hs, a1⟩
    · intro z hz; rw [wrote_owns] at hz; exact hB.above z hz
    · exact (congrArg Core.kind f2).trans d6
    · exact (congrArg Core.names f2).trans dn
    · exact (congrArg Core.kind e2).trans x1
    · rw [hyl, xl]
    · exact (congrArg Core.nm e2).trans xn
    · rw [hy1]; simp [sumLen, hpl]
    · rw [← hyp.1]; simp
    · intro z _ hz
      rcases hz with rfl | rfl
      · exact .inl rfl
      · exact .inr (.inr (.inl (List.mem_map.2 ⟨_, h.mem hx, rfl⟩)))
end Go.Proofs.Ytccfimgpbmkpiaa
