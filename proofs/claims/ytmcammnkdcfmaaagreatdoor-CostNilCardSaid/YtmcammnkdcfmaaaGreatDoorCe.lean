/- Part Ce of the proof that CostNil answers true for every filter and every mood. Conditions: those that each theorem names. -/
import Derived.Test.YtmcammnkdcfmaaaGreatDoorCa
import Derived.Test.YtmcammnkdcfmaaaGreatDoorCb
import Derived.Test.YtmcammnkdcfmaaaGreatDoorX
import Derived.Test.YtmcammnkdcfmaaaGreatDoorK3
namespace Go.Ev
open Go.Proofs

theorem isTrue_some {r : Option (AV × St)} (h : isTrue r = true) : ∃ σ', r = some (.bool true, σ') := by
  unfold isTrue at h
  split at h
  · rename_i σ'; exact ⟨σ', rfl⟩
  · cases h

theorem works_spec {w : World} (h : RowsAt (rho0 13) w [(1, tableC), (2, sortsC)]) : Spec Tryz.prog 5 #[] w (fun _ => False) fun v' _ => v' = .bool true := by
  obtain ⟨σ', hσ⟩ : ∃ σ', evKF Tryz.prog 13 X0 3000 5 [] st0 = some (.bool true, σ') := by
    exact isTrue_some t2
  intro F k hF
  have hlt : ∀ p ∈ ([(1, tableC), (2, sortsC)] : List (Nat × List AV)), p.1 < 13 := by simp
  refine (evKF_ok (nG := 13) (B := fromW w) hm x0_ok x0_nice 3000 5 [] st0 _ σ' hσ F k (rho0 13) w #[] hF (glob0 13) (start_rel hlt h) (VRs.nil _)).mono fun e w' ⟨v', ρ', h1, h2, h3, h4, h5⟩ => ?_
  refine ⟨v', h1, by cases h2; rfl, h5.any, fun j hj _ => ?_⟩
  exact h4.old j (fun hle => by have : w.heap.size ≤ j := hle; omega)

theorem worksOk {W : World} (h : RowsAt (rho0 13) W [(1, tableC), (2, sortsC)]) : WorksOk (Bd.of W (fun _ => False)) := by
  intro σ
  refine AC.of_pure (nG := 13) (post := fun v' _ => v' = .bool true) (fun ρ w vs _ hR hv => ?_) (fun ρ v' w' hp => ⟨.bool true, by rw [hp]; exact .bool true, rfl, rfl, rfl⟩)
  have := hv.zero
  subst this
  refine works_spec fun p hp => ?_
  obtain ⟨arr, t, h1, h2⟩ := h p hp
  have hlt : p.1 < W.heap.size := (Array.getElem?_eq_some_iff.1 h1).1
  exact ⟨arr, t, (hR.old _ (not_mod hlt)).trans h1, h2⟩

theorem beyondOk {W : World} {t : FT} {kd : Int} {vk s1 s2 s3 vm s4 s5 : Value} {dn : Bool} (h : IsF (fun j => W.heap[j]?) (· < W.heap.size) t [.int .i8 kd, vk, s1, s2, s3, vm, s4, s5, .bool dn]) :
    BeyondOk (Bd.of W (fun _ => False)) (.agg [.int .i8 kd, .val vk, .val s1, .val s2, .val s3, .val vm, .val s4, .val s5, .bool dn]) := by
  intro σ
  refine AC.of_pure (nG := 13) (post := fun v' _ => ∃ b, v' = .bool b) (fun ρ w vs _ hR hv => ?_) (fun ρ v' w' ⟨b, hb⟩ => ⟨.bool b, by rw [hb]; exact .bool b, rfl, ⟨b, rfl⟩, rfl⟩)
  obtain ⟨x, rfl, hx⟩ := hv.one
  have hx2 : VR ρ (.agg ([.int .i8 kd, vk, s1, s2, s3, vm, s4, s5, .bool dn].map .val)) x := by
    obtain ⟨us, rfl, hl, hu⟩ := VRs.of_agg hx
    refine .agg (by simpa using hl) fun i y v hy hv => ?_
    have hv' : us.toList[i]? = some v := by simpa using hv
    match i, hy with
    | 0, hy => cases hy; have := hu 0 _ v rfl hv'; cases this; exact .val _
    | 1, hy => cases hy; exact hu 1 _ v rfl hv'
    | 2, hy => cases hy; exact hu 2 _ v rfl hv'
    | 3, hy => cases hy; exact hu 3 _ v rfl hv'
    | 4, hy => cases hy; exact hu 4 _ v rfl hv'
    | 5, hy => cases hy; exact hu 5 _ v rfl hv'
    | 6, hy => cases hy; exact hu 6 _ v rfl hv'
    | 7, hy => cases hy; exact hu 7 _ v rfl hv'
    | 8, hy => cases hy; have := hu 8 _ v rfl hv'; cases this; exact .val _
    | i + 9, hy => cases hy
  have := agg_val hx2
  subst this
  exact beyond_spec h w fun b hb => ⟨hR.mod_lt (not_mod hb), hR.old _ (not_mod hb)⟩

end Go.Ev

namespace Go.Proofs.YtmcammnkdcfmaaaGreatDoor.costNil
open Go.ChangeShapes Go.WideShapes Go.ChangeAt Go.WideMaps Go.WideElems Go.RowKit Go.Ev

theorem rows (W : World) (h : laidMetH Tryz.prog Rows.costNilRow.laid W) : RowsAt (rho0 13) W [(1, tableC), (2, sortsC)] := by
  intro p hp
  have key : ∀ (n : String) (d : DataW Unit) (g t : Nat) (xs : List AV), (Rows.costNilRow.laid.filter fun x => x.1 == n) = [(n, d)] → d.handleName?.isNone = true → Tryz.prog.globalNamed n = some g → (Tryz.prog.globals[g]?).map (·.type) = some t → flatA Tryz.prog 5 t d = some xs → 0 < xs.length →
      ∃ (arr : Array Value) (ty : TypeId), W.heap[g]? = some (.cells arr ty (0, 0)) ∧ VRs (rho0 13) xs arr.toList := by
    intro n d g t xs e1 e2 e3 e4 e5 e6
    have := laidMetH.filter (fun x => x.1 == n) h
    rw [e1, Go.MakeChecks.laidMetH_plain _ _ _ (by simp only [List.all_cons, e2, List.all_nil, Bool.and_true])] at this
    exact rowAt_of this e3 e4 e5 e6
  simp only [List.mem_cons, List.not_mem_nil, or_false] at hp
  rcases hp with rfl | rfl
  · exact key "roster/schema.table" Rows.laid_roster_schema_table 1 136 tableC (by kernel_rfl) (by kernel_rfl) (by kernel_rfl) (by kernel_rfl) (by kernel_rfl) (by decide)
  · exact key "roster/match.sorts" Rows.laid_roster_match_sorts 2 192 sortsC (by kernel_rfl) (by kernel_rfl) (by kernel_rfl) (by kernel_rfl) (by kernel_rfl) (by decide)

theorem main : Main := by
  intro H enc W v0 v1 d0 d1 p0 p1 h0 h1 hL
  obtain ⟨fuel, h0⟩ := h0
  obtain ⟨t, ht⟩ := isF_of_trod fuel _ _ h0
  obtain ⟨kd, vk, s1, s2, s3, vm, s4, s5, dn, hv0⟩ : ∃ kd vk s1 s2 s3 vm s4 s5 dn, v0.cells.toList = [.int .i8 kd, vk, s1, s2, s3, vm, s4, s5, .bool dn] := by
    generalize v0.cells.toList = cs at ht
    cases ht; exact ⟨_, _, _, _, _, _, _, _, _, rfl⟩
  obtain ⟨fuel1, h1⟩ := h1
  obtain ⟨can, index, gb, gl, gc, all, nocan, noguess, hv1⟩ := moods_of_trod h1
  have e0 := agg_of_cells hv0 (by simp)
  have e1 := agg_of_cells hv1 (by simp)
  subst e0 e1
  rw [hv0] at ht
  have S : Go.Ev.Spec Tryz.prog 3 #[.agg #[.int .i8 kd, vk, s1, s2, s3, vm, s4, s5, .bool dn], .agg #[.int .u64 can, .bool index, .slice gb gl gc, .float .f64 all, .bool nocan, .bool noguess]] W (fun _ => False) fun v' _ => v' = .bool true := by
    refine Go.Ev.Spec.of_AC1 (nG := 13) (K := fun v _ => v = .bool true) (rel_none W _) (globL 13 []) ?_ (costNil_ac (Bd.of W (fun _ => False)) kd vk s1 s2 s3 vm s4 s5 dn can index nocan noguess gb gl gc all (worksOk (rows W hL)) (beyondOk ht)) ?_
    · refine VRs.cons ?_ (VRs.cons ?_ (VRs.nil _))
      · refine VRs.to_agg ?_
        exact VRs.cons (.int _ _) <| VRs.cons (.val _) <| VRs.cons (.val _) <| VRs.cons (.val _) <| VRs.cons (.val _) <| VRs.cons (.val _) <| VRs.cons (.val _) <| VRs.cons (.val _) <| VRs.cons (.bool _) <| VRs.nil _
      · refine VRs.to_agg ?_
        exact VRs.cons (.int _ _) <| VRs.cons (.bool _) <| VRs.cons (.val _) <| VRs.cons (.flt _) <| VRs.cons (.bool _) <| VRs.cons (.bool _) <| VRs.nil _
    · intro v v' σ' ρ' w' hv _ _ hk
      subst hk
      cases hv; rfl
  refine (S.calls (b := (Tryz.f3, codeOf Tryz.f3)) (by kernel_rfl)).mono fun e w' ⟨v', h1, h2, h3, h4⟩ => ?_
  subst h2
  exact ⟨h1, h3.os, h3.tape, h3.output, h3.size, fun k hk => h4 k hk id⟩
end Go.Proofs.YtmcammnkdcfmaaaGreatDoor.costNil
