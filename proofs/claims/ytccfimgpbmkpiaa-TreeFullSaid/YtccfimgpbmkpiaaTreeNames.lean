/- (*tree.FS).Names at a directory: a row of as many names. Conditions: at most a million names, each of at most 255 bytes. -/
import Derived.Test.YtccfimgpbmkpiaaFsA
import Derived.Test.YtccfimgpbmkpiaaSorted
import Derived.Maps.OwnSet
namespace Go.Proofs.Ytccfimgpbmkpiaa
set_option linter.unusedVariables false
set_option linter.unusedSimpArgs false
set_option maxRecDepth 100000
open Go.RowKit Go.MapKept Go.ChangeShapes Go.Proofs Go.Sort

/-- A map of names, as the shelf reads it. -/
theorem names_owns {w : World} {b : Nat} {l : List (ByteArray × Int)} (h : MapOf eStr eInt w b l) (hs : ∀ p ∈ l, p.1.size ≤ maxLen) (hl : l.length ≤ maxLen) :
    ∃ D : DataW Unit, w.ownsMap Try.prog 9 (fun _ => some (.nil, [])) b l.length D ∧ Maps.size D = l.length ∧ (strKeys D).length = l.length := by
  obtain ⟨es, ck, h1, h2, h3⟩ := h
  have hsz : es.size = l.length := by
    have := congrArg List.length h2
    simpa using this
  have hlen := length_sorted (es.toList.map (WideElems.rg (H := Unit) Try.prog 9 (fun _ => some (.nil, []))))
  have hsz2 : es.toList.length = l.length := by simpa using hsz
  rw [List.length_map, hsz2] at hlen
  refine ⟨.map ((es.toList.map (WideElems.rg Try.prog 9 _)).foldr DataW.insert []), ⟨es, ck, h1, ⟨by rw [hsz]; exact hl, h3, fun x hx => ?_⟩, by rw [hsz]; exact Nat.le_refl _, rfl⟩, hlen, ?_⟩
  · have hm : (x.key, x.val) ∈ es.toList.map fun e => (e.key, e.val) := List.mem_map.2 ⟨x, hx, rfl⟩
    rw [h2] at hm
    obtain ⟨p, hp, e⟩ := List.mem_map.1 hm
    have hk : x.key = .string p.1 := (congrArg Prod.fst e).symm
    have hkey := WideMaps.keyOf_string_mk (P := Try.prog) Try.underlying9 (hs p hp)
    unfold WideElems.rd
    rw [hk, hkey]
    exact ⟨_, rfl⟩
  · show (List.map _ _).length = _
    rw [List.length_map]; exact hlen

set_option maxHeartbeats 1000000 in
theorem names_dir {w : World} {A : FSA} (h : FSAt w A) {i : Int} {d : NodeR} (hd : A.node? i = some d) (hk : d.n.kind = 6) (hs : ∀ p ∈ d.names, p.1.size ≤ 255) (hl : d.names.length ≤ 1000000) :
    Calls Try.prog 25 #[A.fp, .int .i64 i] w fun e w' => (∃ g c, e = .returned (.slice g d.names.length c)) ∧ Below w.heap.size w w' := by
  have hc := h.c
  have hlx := h.look_some hd
  have hxc := (h.at_ hd).c
  obtain ⟨nb, hnb⟩ := (h.at_ hd).nm_of hk
  rw [hnb] at hxc
  obtain ⟨D, hown, hsz, hkl⟩ := names_owns ((h.at_ hd).nm nb hnb) (fun p hp => by have := hs p hp; unfold maxLen; omega) (by unfold maxLen; omega)
  have cK := callsIn_wide.1 (Try.maps_Keys_51 (some nb) w)
  have cS := callsIn_wide.1 (Try.slices_Sorted_keys_50_51 nb _ D _ w hown (by rw [hsz]; unfold maxLen; omega) (by rw [hsz]; omega))
  have HK := Lib.hid (And.intro hown (And.intro hsz hkl))
  clear hown hsz hkl
  unfold FSA.fp
  go_enter Try.func25, Try.ntmps25
  go_wp2_with fail
  refine cK.mono ?_
  rintro e w1 ⟨rfl, rfl⟩
  go_wp2_with fail
  refine cS.mono ?_
  rintro e w2 ⟨v, ss, rfl, hS, hrow, hnil, hb⟩
  go_wp2_with fail
  go_ret
  have hlen : ss.length = d.names.length := hS.length_eq.trans HK.out.2.2
  refine ⟨?_, ((Below.refl _ w).alloc (Nat.le_refl _) _).trans (hb.mono (by simp))⟩
  rcases hrow.2 with ⟨rfl, hz⟩ | ⟨gb, cap, cur, rfl, _⟩
  · exact ⟨none, 0, by rw [← hlen, hz]; rfl⟩
  · exact ⟨_, cap, by rw [hlen]; rfl⟩
end Go.Proofs.Ytccfimgpbmkpiaa
