/- Part Cn of the proof that CostNil answers true for every filter and every mood. Conditions: those that each theorem names. -/
import Derived.KernelRfl
import Derived.Test.YtmcammnkdcfmaaaGreatDoorDat
import Derived.Test.YtmcammnkdcfmaaaGreatDoorProg
namespace Go.Ev
open Go.Proofs
noncomputable section --all

theorem hm : Tryz.prog.follows .mixedOrders = true := by kernel_rfl

noncomputable def cB : Code := match codeOf Tryz.f10 with
  | .seq _ (.seq _ (.seq _ r)) => r
  | _ => .skip

noncomputable def tmB (above : Int) : Tm := tmL 81 [(1, .ptr (Pos.ofSucc 13) 0), (2, .int .i64 above), (3, .ptr (Pos.ofSucc 16) 0), (6, .bool false)]
noncomputable def stB (kb mb : ABlk) (box : List AV) (n : Int) : St := stS 13 [] [(13, .row [.int .i64 n] 3 1 false true), (14, kb), (15, mb), (16, .row box 26 1 false true)] 17

def KC (B : Bd) : Bd → AV → St → Prop := fun B' v σ' => B' = B ∧ ∃ b n', v = .bool b ∧ σ'.hp.get (Pos.ofSucc 13) = some (.row [.int .i64 n'] 3 1 false true)

/-- What a call of counts comes to. -/
def KS (B : Bd) (σ : St) : Bd → AV → St → Prop := fun B' v σ' => B' = B ∧ ∃ b n', v = .bool b ∧ σ' = { σ with hp := σ.hp.set (.row [.int .i64 n'] 3 1 false true) (Pos.ofSucc 13) }

/-- The texts between, where there are some. -/
theorem counts_row (B : Bd) (kd : Int) (s1 s2 s3 s4 s5 : List Nat) (dn : Bool) (n above : Int) (ms : List (List Nat)) (hlen : ms.length ≤ 9223372036854775807) (cm : Nat) (kv : AV) (kb : ABlk) 
    (hB : ∀ n', AW Tryz.prog 13 17 B cB (tmB above) (stB kb (.row (ms.map .str) 0 1 false false) [.int .i8 kd, kv, .str s1, .str s2, .str s3, .sl (Pos.ofSucc 15) 0 ms.length cm false, .str s4, .str s5, .bool dn] n') (BodyQ Tryz.prog 13 Tryz.f10 (KC B))) :
    AW Tryz.prog 13 17 B (codeOf Tryz.f10) (initTm 81 [.agg [.int .i8 kd, kv, .str s1, .str s2, .str s3, .sl (Pos.ofSucc 15) 0 ms.length cm false, .str s4, .str s5, .bool dn], .ptr (Pos.ofSucc 13) 0, .int .i64 above])
      (stS 13 [] [(13, .row [.int .i64 n] 3 1 false true), (14, kb), (15, .row (ms.map .str) 0 1 false false)] 16) (BodyQ Tryz.prog 13 Tryz.f10 (KC B)) := by
  refine AW.seq1 ?_
  refine AW.run1 [0, 1, 2, 3, 6, 7, 8, 36, 37, 38, 55, 64, 67, 68, 69, 79] (tm' := (tmL 81 [(0, (.agg [(.int .i8 (kd)), (kv), (.str (s1)), (.str (s2)), (.str (s3)), (.sl (Pos.ofSucc 15) 0 (ms.length) (cm) false), (.str (s4)), (.str (s5)), (.bool (dn))])), (1, (.ptr (Pos.ofSucc 13) 0)), (2, (.int .i64 (above))), (3, (.ptr (Pos.ofSucc 16) 0)), (6, (.bool false))])) (σ' := (stS 13 [] [(13, .row [(.int .i64 (n))] 3 1 false true), (14, (kb)), (15, .row (List.map AV.str ms) 0 1 false false), (16, .row [(.int .i8 (kd)), (kv), (.str (s1)), (.str (s2)), (.str (s3)), (.sl (Pos.ofSucc 15) 0 (ms.length) (cm) false), (.str (s4)), (.str (s5)), (.bool (dn))] 26 1 false true)] 17)) (by kernel_rfl) ?_
  refine thenQ_nrm ?_
  refine AW.seq1 ?_
  refine AW.draw1 hm [0, 1, 2, 3, 6, 7, 8, 36, 37, 38, 55, 64, 67, 68, 69, 79] (tm' := (tmL 81 [(0, (.agg [(.int .i8 (kd)), (kv), (.str (s1)), (.str (s2)), (.str (s3)), (.sl (Pos.ofSucc 15) 0 (ms.length) (cm) false), (.str (s4)), (.str (s5)), (.bool (dn))])), (1, (.ptr (Pos.ofSucc 13) 0)), (2, (.int .i64 (above))), (3, (.ptr (Pos.ofSucc 16) 0)), (6, (.bool false))])) (σ' := (stS 13 [] [(13, .row [(.int .i64 (wrapA IntKind.i64 (n + wrapA IntKind.i64 (wrapA IntKind.i64 (wrapA IntKind.i64 (wrapA IntKind.i64 (wrapA IntKind.i64 (1 + Int.ofNat s1.length) + Int.ofNat s2.length) + Int.ofNat s3.length) + Int.ofNat s4.length) + Int.ofNat s5.length))))] 3 1 false true), (14, (kb)), (15, .row (List.map AV.str ms) 0 1 false false), (16, .row [(.int .i8 (kd)), (kv), (.str (s1)), (.str (s2)), (.str (s3)), (.sl (Pos.ofSucc 15) 0 (ms.length) (cm) false), (.str (s4)), (.str (s5)), (.bool (dn))] 26 1 false true)] 43)) (by kernel_rfl) ?_
  refine thenQ_nrm ?_
  refine AW.seq1 ?_
  refine AW.seq1 ?_
  refine AW.run1 [0, 1, 2, 3, 6, 7, 8, 36, 37, 38, 55, 64, 67, 68, 69, 79] (tm' := (tmL 81 [(0, (.agg [(.int .i8 (kd)), (kv), (.str (s1)), (.str (s2)), (.str (s3)), (.sl (Pos.ofSucc 15) 0 (ms.length) (cm) false), (.str (s4)), (.str (s5)), (.bool (dn))])), (1, (.ptr (Pos.ofSucc 13) 0)), (2, (.int .i64 (above))), (3, (.ptr (Pos.ofSucc 16) 0)), (6, (.bool false)), (36, (.int .i64 (.ofNat (ms.length)))), (37, (.int .i64 (.ofNat 0)))])) (σ' := (stS 13 [] [(13, .row [(.int .i64 (wrapA IntKind.i64 (n + wrapA IntKind.i64 (wrapA IntKind.i64 (wrapA IntKind.i64 (wrapA IntKind.i64 (wrapA IntKind.i64 (1 + Int.ofNat s1.length) + Int.ofNat s2.length) + Int.ofNat s3.length) + Int.ofNat s4.length) + Int.ofNat s5.length))))] 3 1 false true), (14, (kb)), (15, .row (List.map AV.str ms) 0 1 false false), (16, .row [(.int .i8 (kd)), (kv), (.str (s1)), (.str (s2)), (.str (s3)), (.sl (Pos.ofSucc 15) 0 (ms.length) (cm) false), (.str (s4)), (.str (s5)), (.bool (dn))] 26 1 false true)] 43)) (by kernel_rfl) ?_
  refine thenQ_nrm ?_
  refine AW.block ?_
  refine AW.loopK [1, 2, 3, 6, 36, 37] (Pos.ofSucc 17) (fun m B' tm σ => ∃ i n', m + i = ms.length ∧ B' = B ∧ tm = tmL 81 [(1, .ptr (Pos.ofSucc 13) 0), (2, .int .i64 above), (3, .ptr (Pos.ofSucc 16) 0), (6, .bool false), (36, .int .i64 (.ofNat ms.length)), (37, .int .i64 (.ofNat i))] ∧ σ = stB kb (.row (ms.map .str) 0 1 false false) [.int .i8 kd, kv, .str s1, .str s2, .str s3, .sl (Pos.ofSucc 15) 0 ms.length cm false, .str s4, .str s5, .bool dn] n') ?_ (m := ms.length) ⟨0, _, rfl, rfl, by kernel_rfl, rfl⟩
  intro m B' tm σ ⟨i, n', hm', hB', ht, hs⟩
  subst hB' ht hs
  refine AW.seq1 ?_
  refine AW.run1 [0, 1, 2, 3, 6, 7, 8, 36, 37, 38, 55, 64, 67, 68, 69, 79] (tm' := (tmL 81 [(1, (.ptr (Pos.ofSucc 13) 0)), (2, (.int .i64 (above))), (3, (.ptr (Pos.ofSucc 16) 0)), (6, (.bool false)), (36, (.int .i64 (.ofNat (ms.length)))), (37, (.int .i64 (.ofNat (i)))), (38, (.bool (ltI (Int.ofNat i) (Int.ofNat ms.length))))])) (σ' := (stS 13 [] [(13, .row [(.int .i64 (n'))] 3 1 false true), (14, (kb)), (15, .row (List.map AV.str ms) 0 1 false false), (16, .row [(.int .i8 (kd)), (kv), (.str (s1)), (.str (s2)), (.str (s3)), (.sl (Pos.ofSucc 15) 0 (ms.length) (cm) false), (.str (s4)), (.str (s5)), (.bool (dn))] 26 1 false true)] 17)) (by kernel_rfl) ?_
  refine thenQ_nrm ?_
  refine AW.seq1 ?_
  by_cases hlt : i < ms.length
  · have hx : (ms.map AV.str)[0 + i * 1]? = some (.str ms[i]) := by simp [hlt]
    refine AW.condT (e := ltI (.ofNat i) (.ofNat ms.length)) (by kernel_rfl) (by rw [ltI_nat]; simpa using hlt) ?_
    refine AW.skip ?_
    refine thenQ_nrm ?_
    refine AW.seq1 ?_
    refine AW.block ?_
    refine AW.seq1 ?_
    refine AW.run1 [0, 1, 2, 3, 6, 7, 8, 36, 37, 38, 55, 64, 67, 68, 69, 79] (tm' := (tmL 81 [(1, (.ptr (Pos.ofSucc 13) 0)), (2, (.int .i64 (above))), (3, (.ptr (Pos.ofSucc 16) 0)), (6, (.bool false)), (7, (.int .i64 (.ofNat (i)))), (36, (.int .i64 (.ofNat (ms.length)))), (37, (.int .i64 (.ofNat (i)))), (38, (.bool (ltI (Int.ofNat i) (Int.ofNat ms.length))))])) (σ' := (stS 13 [] [(13, .row [(.int .i64 (n'))] 3 1 false true), (14, (kb)), (15, .row (List.map AV.str ms) 0 1 false false), (16, .row [(.int .i8 (kd)), (kv), (.str (s1)), (.str (s2)), (.str (s3)), (.sl (Pos.ofSucc 15) 0 (ms.length) (cm) false), (.str (s4)), (.str (s5)), (.bool (dn))] 26 1 false true)] 17)) (by kernel_rfl) ?_
    refine thenQ_nrm ?_
    refine AW.seq1 ?_
    refine AW.drawL hm [0, 1, 2, 3, 6, 7, 8, 36, 37, 38, 55, 64, 67, 68, 69, 79] [0, 1, 2, 3, 4, 5, 6, 7, 8, 9, 10, 11, 12] (top := Pos.ofSucc 30) (limN := 31) (σ0 := (stS 13 [] [(13, .row [(.int .i64 (n'))] 3 1 false true), (14, (kb)), (15, .row (List.map AV.str ms) 0 1 false false), (16, .row [(.int .i8 (kd)), (kv), (.str (s1)), (.str (s2)), (.str (s3)), (.sl (Pos.ofSucc 15) 0 (ms.length) (cm) false), (.str (s4)), (.str (s5)), (.bool (dn))] 26 1 false true)] 30)) (by kernel_rfl) (by kernel_rfl) (by kernel_rfl) (by kernel_rfl) (by kernel_rfl) (by kernel_rfl) ?_
    refine DO.run [0, 1, 2, 3, 4, 5] [6, 7, 8, 9, 10, 11, 12] rfl (tm1 := (tmL 81 [(1, (.ptr (Pos.ofSucc 13) 0)), (2, (.int .i64 (above))), (3, (.ptr (Pos.ofSucc 16) 0)), (6, (.bool false)), (7, (.int .i64 (.ofNat (i)))), (36, (.int .i64 (.ofNat (ms.length)))), (37, (.int .i64 (.ofNat (i)))), (38, (.bool (ltI (Int.ofNat i) (Int.ofNat ms.length)))), (40, (.ptr (Pos.ofSucc 13) 0)), (41, (.ptr (Pos.ofSucc 13) 0)), (42, (.int .i64 (n'))), (43, (.ptr (Pos.ofSucc 16) 5)), (44, (.sl (Pos.ofSucc 15) 0 (ms.length) (cm) false)), (45, (.int .i64 (.ofNat (i))))])) (σ1 := (stS 13 [] [(13, .row [(.int .i64 (n'))] 3 1 false true), (14, (kb)), (15, .row (List.map AV.str ms) 0 1 false false), (16, .row [(.int .i8 (kd)), (kv), (.str (s1)), (.str (s2)), (.str (s3)), (.sl (Pos.ofSucc 15) 0 (ms.length) (cm) false), (.str (s4)), (.str (s5)), (.bool (dn))] 26 1 false true)] 30)) (f1 := [(0, ⟨[], [], false, false⟩), (1, ⟨[], [], false, false⟩), (2, ⟨[(Pos.ofSucc 13)], [], false, false⟩), (3, ⟨[], [], false, false⟩), (4, ⟨[(Pos.ofSucc 16)], [], false, false⟩), (5, ⟨[], [], false, false⟩)]) (by kernel_rfl) ?_
    refine DO.index (t := 24) (e := 9) (b := (Pos.ofSucc 15)) (off := 0) (len := (ms.length)) (cap := (cm)) (opn := false) (k := .i64) (n := (i)) (sz := 1) rfl (by kernel_rfl) rfl (by kernel_rfl) (by kernel_rfl) (by kernel_rfl) (by kernel_rfl) (by omega) ?_
    refine DO.loadCell (b := (Pos.ofSucc 15)) (off := (0 + i * 1)) (cells := (List.map AV.str ms)) (t' := 0) (sz := 1) (opn := false) (wr := false) (v := (.str (ms[i]))) rfl (by kernel_rfl) rfl (by kernel_rfl) (by kernel_rfl) (by kernel_rfl) hx ?_
    refine DO.run [8, 9, 10, 11, 12] [] rfl (tm1 := (tmL 81 [(1, (.ptr (Pos.ofSucc 13) 0)), (2, (.int .i64 (above))), (3, (.ptr (Pos.ofSucc 16) 0)), (6, (.bool false)), (7, (.int .i64 (.ofNat (i)))), (36, (.int .i64 (.ofNat (ms.length)))), (37, (.int .i64 (.ofNat (i)))), (38, (.bool (ltI (Int.ofNat i) (Int.ofNat ms.length)))), (40, (.ptr (Pos.ofSucc 13) 0)), (41, (.ptr (Pos.ofSucc 13) 0)), (42, (.int .i64 (n'))), (43, (.ptr (Pos.ofSucc 16) 5)), (44, (.sl (Pos.ofSucc 15) 0 (ms.length) (cm) false)), (45, (.int .i64 (.ofNat (i)))), (46, (.ptr (Pos.ofSucc 15) (0 + i * 1))), (47, (.str (ms[i]))), (48, (.int .i64 (.ofNat (ms[i].length)))), (49, (.int .i64 (wrapA IntKind.i64 (1 + Int.ofNat ms[i].length)))), (50, (.int .i64 (wrapA IntKind.i64 (n' + wrapA IntKind.i64 (1 + Int.ofNat ms[i].length))))), (51, (.ptr (Pos.ofSucc 13) 0))])) (σ1 := (stS 13 [] [(13, .row [(.int .i64 (wrapA IntKind.i64 (n' + wrapA IntKind.i64 (1 + Int.ofNat ms[i].length))))] 3 1 false true), (14, (kb)), (15, .row (List.map AV.str ms) 0 1 false false), (16, .row [(.int .i8 (kd)), (kv), (.str (s1)), (.str (s2)), (.str (s3)), (.sl (Pos.ofSucc 15) 0 (ms.length) (cm) false), (.str (s4)), (.str (s5)), (.bool (dn))] 26 1 false true)] 30)) (f1 := [(8, ⟨[], [], false, false⟩), (9, ⟨[], [], false, false⟩), (10, ⟨[], [], false, false⟩), (11, ⟨[], [], false, false⟩), (12, ⟨[(Pos.ofSucc 13), (Pos.ofSucc 13)], [(Pos.ofSucc 13)], false, false⟩)]) (by kernel_rfl) ?_
    refine DO.nil (drawQ_mk [0, 1, 2, 3, 6, 7, 8, 36, 37, 38, 55, 64, 67, 68, 69, 79] (tm' := (tmL 81 [(1, (.ptr (Pos.ofSucc 13) 0)), (2, (.int .i64 (above))), (3, (.ptr (Pos.ofSucc 16) 0)), (6, (.bool false)), (7, (.int .i64 (.ofNat (i)))), (36, (.int .i64 (.ofNat (ms.length)))), (37, (.int .i64 (.ofNat (i)))), (38, (.bool (ltI (Int.ofNat i) (Int.ofNat ms.length))))])) (by kernel_rfl) (by kernel_rfl) ?_)
    refine thenQ_nrm ?_
    refine AW.seq1 ?_
    refine AW.run1 [0, 1, 2, 3, 6, 7, 8, 36, 37, 38, 55, 64, 67, 68, 69, 79] (tm' := (tmL 81 [(1, (.ptr (Pos.ofSucc 13) 0)), (2, (.int .i64 (above))), (3, (.ptr (Pos.ofSucc 16) 0)), (6, (.bool false)), (7, (.int .i64 (.ofNat (i)))), (36, (.int .i64 (.ofNat (ms.length)))), (37, (.int .i64 (.ofNat (i)))), (38, (.bool (ltI (Int.ofNat i) (Int.ofNat ms.length)))), (55, (.bool (ltI 134217728 (wrapA IntKind.i64 (n' + wrapA IntKind.i64 (1 + Int.ofNat ms[i].length))))))])) (σ' := (stS 13 [] [(13, .row [(.int .i64 (wrapA IntKind.i64 (n' + wrapA IntKind.i64 (1 + Int.ofNat ms[i].length))))] 3 1 false true), (14, (kb)), (15, .row (List.map AV.str ms) 0 1 false false), (16, .row [(.int .i8 (kd)), (kv), (.str (s1)), (.str (s2)), (.str (s3)), (.sl (Pos.ofSucc 15) 0 (ms.length) (cm) false), (.str (s4)), (.str (s5)), (.bool (dn))] 26 1 false true)] 30)) (by kernel_rfl) ?_
    refine thenQ_nrm ?_
    refine AW.condE (e := (ltI 134217728 (wrapA IntKind.i64 (n' + wrapA IntKind.i64 (1 + Int.ofNat ms[i].length))))) (by kernel_rfl) (fun hb => ?_) (fun hb => ?_)
    · refine AW.seq1 ?_
      refine AW.run1 [0, 1, 2, 3, 6, 7, 8, 36, 37, 38, 55, 64, 67, 68, 69, 79] (tm' := (tmL 81 [(1, (.ptr (Pos.ofSucc 13) 0)), (2, (.int .i64 (above))), (3, (.ptr (Pos.ofSucc 16) 0)), (6, (.bool true)), (7, (.int .i64 (.ofNat (i)))), (36, (.int .i64 (.ofNat (ms.length)))), (37, (.int .i64 (.ofNat (i)))), (38, (.bool (ltI (Int.ofNat i) (Int.ofNat ms.length)))), (55, (.bool (ltI 134217728 (wrapA IntKind.i64 (n' + wrapA IntKind.i64 (1 + Int.ofNat ms[i].length))))))])) (σ' := (stS 13 [] [(13, .row [(.int .i64 (wrapA IntKind.i64 (n' + wrapA IntKind.i64 (1 + Int.ofNat ms[i].length))))] 3 1 false true), (14, (kb)), (15, .row (List.map AV.str ms) 0 1 false false), (16, .row [(.int .i8 (kd)), (kv), (.str (s1)), (.str (s2)), (.str (s3)), (.sl (Pos.ofSucc 15) 0 (ms.length) (cm) false), (.str (s4)), (.str (s5)), (.bool (dn))] 26 1 false true)] 30)) (by kernel_rfl) ?_
      refine thenQ_nrm ?_
      refine AW.ret ?_
      refine inBlock_ret ?_
      refine thenQ_ret ?_
      refine keepQ_ret ?_
      refine nxQ_ret ?_
      refine loopQ_ret ?_
      refine inBlock_ret ?_
      refine thenQ_ret ?_
      exact ⟨.bool true, by kernel_rfl, rfl, true, _, rfl, rfl⟩
    · refine AW.skip ?_
      refine inBlock_nrm ?_
      refine thenQ_nrm ?_
      refine AW.run1 [0, 1, 2, 3, 6, 7, 8, 36, 37, 38, 55, 64, 67, 68, 69, 79] (tm' := (tmL 81 [(1, (.ptr (Pos.ofSucc 13) 0)), (2, (.int .i64 (above))), (3, (.ptr (Pos.ofSucc 16) 0)), (6, (.bool false)), (7, (.int .i64 (.ofNat (i)))), (36, (.int .i64 (.ofNat (ms.length)))), (37, (.int .i64 (wrapA IntKind.i64 (Int.ofNat i + 1)))), (38, (.bool (ltI (Int.ofNat i) (Int.ofNat ms.length)))), (55, (.bool (ltI 134217728 (wrapA IntKind.i64 (n' + wrapA IntKind.i64 (1 + Int.ofNat ms[i].length))))))])) (σ' := (stS 13 [] [(13, .row [(.int .i64 (wrapA IntKind.i64 (n' + wrapA IntKind.i64 (1 + Int.ofNat ms[i].length))))] 3 1 false true), (14, (kb)), (15, .row (List.map AV.str ms) 0 1 false false), (16, .row [(.int .i8 (kd)), (kv), (.str (s1)), (.str (s2)), (.str (s3)), (.sl (Pos.ofSucc 15) 0 (ms.length) (cm) false), (.str (s4)), (.str (s5)), (.bool (dn))] 26 1 false true)] 30)) (by kernel_rfl) ?_
      refine keepQ_nrm (tm' := (tmL 81 [(1, (.ptr (Pos.ofSucc 13) 0)), (2, (.int .i64 (above))), (3, (.ptr (Pos.ofSucc 16) 0)), (6, (.bool false)), (36, (.int .i64 (.ofNat (ms.length)))), (37, (.int .i64 (wrapA IntKind.i64 (Int.ofNat i + 1))))])) (by kernel_rfl) ?_
      refine nxQ_nrm (σ' := (stS 13 [] [(13, .row [(.int .i64 (wrapA IntKind.i64 (n' + wrapA IntKind.i64 (1 + Int.ofNat ms[i].length))))] 3 1 false true), (14, (kb)), (15, .row (List.map AV.str ms) 0 1 false false), (16, .row [(.int .i8 (kd)), (kv), (.str (s1)), (.str (s2)), (.str (s3)), (.sl (Pos.ofSucc 15) 0 (ms.length) (cm) false), (.str (s4)), (.str (s5)), (.bool (dn))] 26 1 false true)] 17)) (by kernel_rfl) ?_
      refine loopQ_nrm (m - 1) (by omega) ⟨i + 1, _, by omega, rfl, ?_, rfl⟩
      have e1 : wrapA .i64 (Int.ofNat i + 1) = Int.ofNat (i + 1) := wrapA_nat _ (by have := hlen; omega)
      rw [e1]
  · refine AW.condF (e := ltI (.ofNat i) (.ofNat ms.length)) (by kernel_rfl) (by rw [ltI_nat]; simpa using hlt) ?_
    refine AW.exit ?_
    refine thenQ_ex ?_
    refine keepQ_ex ?_
    refine nxQ_ex ?_
    refine loopQ_ex ?_
    refine inBlock_ex ?_
    refine thenQ_nrm ?_
    refine AW.keep [1, 2, 3, 6] ?_
    exact hB n'

/-- No texts between. -/
theorem counts_nil (B : Bd) (kd : Int) (s1 s2 s3 s4 s5 : List Nat) (dn : Bool) (n above : Int) (kv : AV) (kb mb : ABlk)
    (hB : ∀ n', AW Tryz.prog 13 17 B cB (tmB above) (stB kb mb [.int .i8 kd, kv, .str s1, .str s2, .str s3, .nils, .str s4, .str s5, .bool dn] n') (BodyQ Tryz.prog 13 Tryz.f10 (KC B))) :
    AW Tryz.prog 13 17 B (codeOf Tryz.f10) (initTm 81 [.agg [.int .i8 kd, kv, .str s1, .str s2, .str s3, .nils, .str s4, .str s5, .bool dn], .ptr (Pos.ofSucc 13) 0, .int .i64 above])
      (stS 13 [] [(13, .row [.int .i64 n] 3 1 false true), (14, kb), (15, mb)] 16) (BodyQ Tryz.prog 13 Tryz.f10 (KC B)) := by
  refine AW.seq1 ?_
  refine AW.run1 [0, 1, 2, 3, 6, 7, 8, 36, 37, 38, 55, 64, 67, 68, 69, 79] (tm' := (tmL 81 [(0, (.agg [(.int .i8 (kd)), (kv), (.str (s1)), (.str (s2)), (.str (s3)), .nils, (.str (s4)), (.str (s5)), (.bool (dn))])), (1, (.ptr (Pos.ofSucc 13) 0)), (2, (.int .i64 (above))), (3, (.ptr (Pos.ofSucc 16) 0)), (6, (.bool false))])) (σ' := (stS 13 [] [(13, .row [(.int .i64 (n))] 3 1 false true), (14, (kb)), (15, (mb)), (16, .row [(.int .i8 (kd)), (kv), (.str (s1)), (.str (s2)), (.str (s3)), .nils, (.str (s4)), (.str (s5)), (.bool (dn))] 26 1 false true)] 17)) (by kernel_rfl) ?_
  refine thenQ_nrm ?_
  refine AW.seq1 ?_
  refine AW.draw1 hm [0, 1, 2, 3, 6, 7, 8, 36, 37, 38, 55, 64, 67, 68, 69, 79] (tm' := (tmL 81 [(0, (.agg [(.int .i8 (kd)), (kv), (.str (s1)), (.str (s2)), (.str (s3)), .nils, (.str (s4)), (.str (s5)), (.bool (dn))])), (1, (.ptr (Pos.ofSucc 13) 0)), (2, (.int .i64 (above))), (3, (.ptr (Pos.ofSucc 16) 0)), (6, (.bool false))])) (σ' := (stS 13 [] [(13, .row [(.int .i64 (wrapA IntKind.i64 (n + wrapA IntKind.i64 (wrapA IntKind.i64 (wrapA IntKind.i64 (wrapA IntKind.i64 (wrapA IntKind.i64 (1 + Int.ofNat s1.length) + Int.ofNat s2.length) + Int.ofNat s3.length) + Int.ofNat s4.length) + Int.ofNat s5.length))))] 3 1 false true), (14, (kb)), (15, (mb)), (16, .row [(.int .i8 (kd)), (kv), (.str (s1)), (.str (s2)), (.str (s3)), .nils, (.str (s4)), (.str (s5)), (.bool (dn))] 26 1 false true)] 43)) (by kernel_rfl) ?_
  refine thenQ_nrm ?_
  refine AW.seq1 ?_
  refine AW.seq1 ?_
  refine AW.run1 [0, 1, 2, 3, 6, 7, 8, 36, 37, 38, 55, 64, 67, 68, 69, 79] (tm' := (tmL 81 [(0, (.agg [(.int .i8 (kd)), (kv), (.str (s1)), (.str (s2)), (.str (s3)), .nils, (.str (s4)), (.str (s5)), (.bool (dn))])), (1, (.ptr (Pos.ofSucc 13) 0)), (2, (.int .i64 (above))), (3, (.ptr (Pos.ofSucc 16) 0)), (6, (.bool false)), (36, (.int .i64 (.ofNat 0))), (37, (.int .i64 (.ofNat 0)))])) (σ' := (stS 13 [] [(13, .row [(.int .i64 (wrapA IntKind.i64 (n + wrapA IntKind.i64 (wrapA IntKind.i64 (wrapA IntKind.i64 (wrapA IntKind.i64 (wrapA IntKind.i64 (1 + Int.ofNat s1.length) + Int.ofNat s2.length) + Int.ofNat s3.length) + Int.ofNat s4.length) + Int.ofNat s5.length))))] 3 1 false true), (14, (kb)), (15, (mb)), (16, .row [(.int .i8 (kd)), (kv), (.str (s1)), (.str (s2)), (.str (s3)), .nils, (.str (s4)), (.str (s5)), (.bool (dn))] 26 1 false true)] 43)) (by kernel_rfl) ?_
  refine thenQ_nrm ?_
  refine AW.block ?_
  refine AW.loop0 ?_
  refine AW.seq1 ?_
  refine AW.run1 [0, 1, 2, 3, 6, 7, 8, 36, 37, 38, 55, 64, 67, 68, 69, 79] (tm' := (tmL 81 [(0, (.agg [(.int .i8 (kd)), (kv), (.str (s1)), (.str (s2)), (.str (s3)), .nils, (.str (s4)), (.str (s5)), (.bool (dn))])), (1, (.ptr (Pos.ofSucc 13) 0)), (2, (.int .i64 (above))), (3, (.ptr (Pos.ofSucc 16) 0)), (6, (.bool false)), (36, (.int .i64 (.ofNat 0))), (37, (.int .i64 (.ofNat 0))), (38, (.bool false))])) (σ' := (stS 13 [] [(13, .row [(.int .i64 (wrapA IntKind.i64 (n + wrapA IntKind.i64 (wrapA IntKind.i64 (wrapA IntKind.i64 (wrapA IntKind.i64 (wrapA IntKind.i64 (1 + Int.ofNat s1.length) + Int.ofNat s2.length) + Int.ofNat s3.length) + Int.ofNat s4.length) + Int.ofNat s5.length))))] 3 1 false true), (14, (kb)), (15, (mb)), (16, .row [(.int .i8 (kd)), (kv), (.str (s1)), (.str (s2)), (.str (s3)), .nils, (.str (s4)), (.str (s5)), (.bool (dn))] 26 1 false true)] 43)) (by kernel_rfl) ?_
  refine thenQ_nrm ?_
  refine AW.seq1 ?_
  refine AW.cond (b := false) (by kernel_rfl) ?_
  refine AW.exit ?_
  refine thenQ_ex ?_
  refine loopQ_ex ?_
  refine inBlock_ex ?_
  refine thenQ_nrm ?_
  refine AW.keep [1, 2, 3, 6] ?_
  refine AW.nx (Pos.ofSucc 17) ?_
  exact hB _


/-- No texts between. -/
theorem counts_emp (B : Bd) (kd : Int) (s1 s2 s3 s4 s5 : List Nat) (dn : Bool) (n above : Int) (kv : AV) (kb mb : ABlk)
    (hB : ∀ n', AW Tryz.prog 13 17 B cB (tmB above) (stB kb mb [.int .i8 kd, kv, .str s1, .str s2, .str s3, .sle, .str s4, .str s5, .bool dn] n') (BodyQ Tryz.prog 13 Tryz.f10 (KC B))) :
    AW Tryz.prog 13 17 B (codeOf Tryz.f10) (initTm 81 [.agg [.int .i8 kd, kv, .str s1, .str s2, .str s3, .sle, .str s4, .str s5, .bool dn], .ptr (Pos.ofSucc 13) 0, .int .i64 above])
      (stS 13 [] [(13, .row [.int .i64 n] 3 1 false true), (14, kb), (15, mb)] 16) (BodyQ Tryz.prog 13 Tryz.f10 (KC B)) := by
  refine AW.seq1 ?_
  refine AW.run1 [0, 1, 2, 3, 6, 7, 8, 36, 37, 38, 55, 64, 67, 68, 69, 79] (tm' := (tmL 81 [(0, (.agg [(.int .i8 (kd)), (kv), (.str (s1)), (.str (s2)), (.str (s3)), .sle, (.str (s4)), (.str (s5)), (.bool (dn))])), (1, (.ptr (Pos.ofSucc 13) 0)), (2, (.int .i64 (above))), (3, (.ptr (Pos.ofSucc 16) 0)), (6, (.bool false))])) (σ' := (stS 13 [] [(13, .row [(.int .i64 (n))] 3 1 false true), (14, (kb)), (15, (mb)), (16, .row [(.int .i8 (kd)), (kv), (.str (s1)), (.str (s2)), (.str (s3)), .sle, (.str (s4)), (.str (s5)), (.bool (dn))] 26 1 false true)] 17)) (by kernel_rfl) ?_
  refine thenQ_nrm ?_
  refine AW.seq1 ?_
  refine AW.draw1 hm [0, 1, 2, 3, 6, 7, 8, 36, 37, 38, 55, 64, 67, 68, 69, 79] (tm' := (tmL 81 [(0, (.agg [(.int .i8 (kd)), (kv), (.str (s1)), (.str (s2)), (.str (s3)), .sle, (.str (s4)), (.str (s5)), (.bool (dn))])), (1, (.ptr (Pos.ofSucc 13) 0)), (2, (.int .i64 (above))), (3, (.ptr (Pos.ofSucc 16) 0)), (6, (.bool false))])) (σ' := (stS 13 [] [(13, .row [(.int .i64 (wrapA IntKind.i64 (n + wrapA IntKind.i64 (wrapA IntKind.i64 (wrapA IntKind.i64 (wrapA IntKind.i64 (wrapA IntKind.i64 (1 + Int.ofNat s1.length) + Int.ofNat s2.length) + Int.ofNat s3.length) + Int.ofNat s4.length) + Int.ofNat s5.length))))] 3 1 false true), (14, (kb)), (15, (mb)), (16, .row [(.int .i8 (kd)), (kv), (.str (s1)), (.str (s2)), (.str (s3)), .sle, (.str (s4)), (.str (s5)), (.bool (dn))] 26 1 false true)] 43)) (by kernel_rfl) ?_
  refine thenQ_nrm ?_
  refine AW.seq1 ?_
  refine AW.seq1 ?_
  refine AW.run1 [0, 1, 2, 3, 6, 7, 8, 36, 37, 38, 55, 64, 67, 68, 69, 79] (tm' := (tmL 81 [(0, (.agg [(.int .i8 (kd)), (kv), (.str (s1)), (.str (s2)), (.str (s3)), .sle, (.str (s4)), (.str (s5)), (.bool (dn))])), (1, (.ptr (Pos.ofSucc 13) 0)), (2, (.int .i64 (above))), (3, (.ptr (Pos.ofSucc 16) 0)), (6, (.bool false)), (36, (.int .i64 (.ofNat 0))), (37, (.int .i64 (.ofNat 0)))])) (σ' := (stS 13 [] [(13, .row [(.int .i64 (wrapA IntKind.i64 (n + wrapA IntKind.i64 (wrapA IntKind.i64 (wrapA IntKind.i64 (wrapA IntKind.i64 (wrapA IntKind.i64 (1 + Int.ofNat s1.length) + Int.ofNat s2.length) + Int.ofNat s3.length) + Int.ofNat s4.length) + Int.ofNat s5.length))))] 3 1 false true), (14, (kb)), (15, (mb)), (16, .row [(.int .i8 (kd)), (kv), (.str (s1)), (.str (s2)), (.str (s3)), .sle, (.str (s4)), (.str (s5)), (.bool (dn))] 26 1 false true)] 43)) (by kernel_rfl) ?_
  refine thenQ_nrm ?_
  refine AW.block ?_
  refine AW.loop0 ?_
  refine AW.seq1 ?_
  refine AW.run1 [0, 1, 2, 3, 6, 7, 8, 36, 37, 38, 55, 64, 67, 68, 69, 79] (tm' := (tmL 81 [(0, (.agg [(.int .i8 (kd)), (kv), (.str (s1)), (.str (s2)), (.str (s3)), .sle, (.str (s4)), (.str (s5)), (.bool (dn))])), (1, (.ptr (Pos.ofSucc 13) 0)), (2, (.int .i64 (above))), (3, (.ptr (Pos.ofSucc 16) 0)), (6, (.bool false)), (36, (.int .i64 (.ofNat 0))), (37, (.int .i64 (.ofNat 0))), (38, (.bool false))])) (σ' := (stS 13 [] [(13, .row [(.int .i64 (wrapA IntKind.i64 (n + wrapA IntKind.i64 (wrapA IntKind.i64 (wrapA IntKind.i64 (wrapA IntKind.i64 (wrapA IntKind.i64 (1 + Int.ofNat s1.length) + Int.ofNat s2.length) + Int.ofNat s3.length) + Int.ofNat s4.length) + Int.ofNat s5.length))))] 3 1 false true), (14, (kb)), (15, (mb)), (16, .row [(.int .i8 (kd)), (kv), (.str (s1)), (.str (s2)), (.str (s3)), .sle, (.str (s4)), (.str (s5)), (.bool (dn))] 26 1 false true)] 43)) (by kernel_rfl) ?_
  refine thenQ_nrm ?_
  refine AW.seq1 ?_
  refine AW.cond (b := false) (by kernel_rfl) ?_
  refine AW.exit ?_
  refine thenQ_ex ?_
  refine loopQ_ex ?_
  refine inBlock_ex ?_
  refine thenQ_nrm ?_
  refine AW.keep [1, 2, 3, 6] ?_
  refine AW.nx (Pos.ofSucc 17) ?_
  exact hB _


/-- The kids. -/
theorem counts_kids (B : Bd) (above n : Int) (ck : List Value) (kn cap : Nat) (hlen : kn ≤ 9223372036854775807) (hck : ck.length = kn * 9) (mb : ABlk) (kd s1 s2 s3 mv s4 s5 dn : AV)
    (hcall : ∀ (i : Nat) (a n : Int) (σ : St), i < kn → σ.hp.get (Pos.ofSucc 13) = some (.row [.int .i64 n] 3 1 false true) → AC Tryz.prog 13 B 10 [.agg (((ck.drop (i * 9)).take 9).map .val), .ptr (Pos.ofSucc 13) 0, .int .i64 a] σ (KS B σ)) :
    AW Tryz.prog 13 17 B cB (tmB above) (stB (.row (ck.map .val) 0 9 false false) mb [kd, .sl (Pos.ofSucc 14) 0 kn cap false, s1, s2, s3, mv, s4, s5, dn] n) (BodyQ Tryz.prog 13 Tryz.f10 (KC B)) := by
  refine AW.seq1 ?_
  refine AW.seq1 ?_
  refine AW.keepOut [0, 1, 2, 3, 6, 7, 8, 36, 37, 38, 55, 64, 67, 68, 69, 79] ?_
  refine AW.regionL [0, 1, 2, 3, 4, 5, 6, 7] (by kernel_rfl) ?_
  refine AO.run1 [0, 1, 2, 3, 4] [5, 6, 7] rfl (tm' := (tmL 81 [(1, (.ptr (Pos.ofSucc 13) 0)), (2, (.int .i64 (above))), (3, (.ptr (Pos.ofSucc 16) 0)), (6, (.bool false)), (57, (.ptr (Pos.ofSucc 13) 0)), (58, (.ptr (Pos.ofSucc 13) 0)), (59, (.int .i64 (n))), (60, (.bool (ltI 134217728 n))), (61, (.bool (ltI 134217728 n)))])) (σ' := (stS 13 [] [(13, .row [(.int .i64 (n))] 3 1 false true), (14, .row (List.map AV.val ck) 0 9 false false), (15, (mb)), (16, .row [(kd), (.sl (Pos.ofSucc 14) 0 (kn) (cap) false), (s1), (s2), (s3), (mv), (s4), (s5), (dn)] 26 1 false true)] 17)) (by kernel_rfl) ?_
  rcases Bool.eq_false_or_eq_true (ltI 134217728 n) with hb | hb <;> rw [hb]
  · refine AO.run1 [5, 6, 7] [] rfl (tm' := (tmL 81 [(1, (.ptr (Pos.ofSucc 13) 0)), (2, (.int .i64 (above))), (3, (.ptr (Pos.ofSucc 16) 0)), (6, (.bool false)), (57, (.ptr (Pos.ofSucc 13) 0)), (58, (.ptr (Pos.ofSucc 13) 0)), (59, (.int .i64 (n))), (60, (.bool true)), (61, (.bool true)), (62, (.tup [])), (63, (.tup [])), (64, (.bool true))])) (σ' := (stS 13 [] [(13, .row [(.int .i64 (n))] 3 1 false true), (14, .row (List.map AV.val ck) 0 9 false false), (15, (mb)), (16, .row [(kd), (.sl (Pos.ofSucc 14) 0 (kn) (cap) false), (s1), (s2), (s3), (mv), (s4), (s5), (dn)] 26 1 false true)] 17)) (by kernel_rfl) ?_
    refine AO.nil (nrmQ_mk ?_)
    refine keepQ_nrm (tm' := (tmL 81 [(1, (.ptr (Pos.ofSucc 13) 0)), (2, (.int .i64 (above))), (3, (.ptr (Pos.ofSucc 16) 0)), (6, (.bool false)), (64, (.bool true))])) (by kernel_rfl) ?_
    refine thenQ_nrm ?_
    refine AW.cond (b := true) (by kernel_rfl) ?_
    refine AW.seq1 ?_
    refine AW.run1 [0, 1, 2, 3, 6, 7, 8, 36, 37, 38, 55, 64, 67, 68, 69, 79] (tm' := (tmL 81 [(1, (.ptr (Pos.ofSucc 13) 0)), (2, (.int .i64 (above))), (3, (.ptr (Pos.ofSucc 16) 0)), (6, (.bool true)), (64, (.bool true))])) (σ' := (stS 13 [] [(13, .row [(.int .i64 (n))] 3 1 false true), (14, .row (List.map AV.val ck) 0 9 false false), (15, (mb)), (16, .row [(kd), (.sl (Pos.ofSucc 14) 0 (kn) (cap) false), (s1), (s2), (s3), (mv), (s4), (s5), (dn)] 26 1 false true)] 17)) (by kernel_rfl) ?_
    refine thenQ_nrm ?_
    refine AW.ret ?_
    refine thenQ_ret ?_
    exact ⟨.bool true, by kernel_rfl, rfl, true, _, rfl, rfl⟩
  · refine AO.run1 [5, 6, 7] [] rfl (tm' := (tmL 81 [(1, (.ptr (Pos.ofSucc 13) 0)), (2, (.int .i64 (above))), (3, (.ptr (Pos.ofSucc 16) 0)), (6, (.bool false)), (57, (.ptr (Pos.ofSucc 13) 0)), (58, (.ptr (Pos.ofSucc 13) 0)), (59, (.int .i64 (n))), (60, (.bool false)), (61, (.bool false)), (62, (.int .i64 (above))), (63, (.bool (ltI 65536 above))), (64, (.bool (ltI 65536 above)))])) (σ' := (stS 13 [] [(13, .row [(.int .i64 (n))] 3 1 false true), (14, .row (List.map AV.val ck) 0 9 false false), (15, (mb)), (16, .row [(kd), (.sl (Pos.ofSucc 14) 0 (kn) (cap) false), (s1), (s2), (s3), (mv), (s4), (s5), (dn)] 26 1 false true)] 17)) (by kernel_rfl) ?_
    refine AO.nil (nrmQ_mk ?_)
    refine keepQ_nrm (tm' := (tmL 81 [(1, (.ptr (Pos.ofSucc 13) 0)), (2, (.int .i64 (above))), (3, (.ptr (Pos.ofSucc 16) 0)), (6, (.bool false)), (64, (.bool (ltI 65536 above)))])) (by kernel_rfl) ?_
    refine thenQ_nrm ?_
    refine AW.condE (e := (ltI 65536 above)) (by kernel_rfl) (fun hb => ?_) (fun hb => ?_)
    · refine AW.seq1 ?_
      refine AW.run1 [0, 1, 2, 3, 6, 7, 8, 36, 37, 38, 55, 64, 67, 68, 69, 79] (tm' := (tmL 81 [(1, (.ptr (Pos.ofSucc 13) 0)), (2, (.int .i64 (above))), (3, (.ptr (Pos.ofSucc 16) 0)), (6, (.bool true)), (64, (.bool (ltI 65536 above)))])) (σ' := (stS 13 [] [(13, .row [(.int .i64 (n))] 3 1 false true), (14, .row (List.map AV.val ck) 0 9 false false), (15, (mb)), (16, .row [(kd), (.sl (Pos.ofSucc 14) 0 (kn) (cap) false), (s1), (s2), (s3), (mv), (s4), (s5), (dn)] 26 1 false true)] 17)) (by kernel_rfl) ?_
      refine thenQ_nrm ?_
      refine AW.ret ?_
      refine thenQ_ret ?_
      exact ⟨.bool true, by kernel_rfl, rfl, true, _, rfl, rfl⟩
    · refine AW.skip ?_
      refine thenQ_nrm ?_
      refine AW.seq1 ?_
      refine AW.seq1 ?_
      refine AW.run1 [0, 1, 2, 3, 6, 7, 8, 36, 37, 38, 55, 64, 67, 68, 69, 79] (tm' := (tmL 81 [(1, (.ptr (Pos.ofSucc 13) 0)), (2, (.int .i64 (above))), (3, (.ptr (Pos.ofSucc 16) 0)), (6, (.bool false)), (64, (.bool (ltI 65536 above))), (67, (.int .i64 (.ofNat (kn)))), (68, (.int .i64 (.ofNat 0)))])) (σ' := (stS 13 [] [(13, .row [(.int .i64 (n))] 3 1 false true), (14, .row (List.map AV.val ck) 0 9 false false), (15, (mb)), (16, .row [(kd), (.sl (Pos.ofSucc 14) 0 (kn) (cap) false), (s1), (s2), (s3), (mv), (s4), (s5), (dn)] 26 1 false true)] 17)) (by kernel_rfl) ?_
      refine thenQ_nrm ?_
      refine AW.block ?_
      refine AW.loopK [1, 2, 3, 6, 67, 68] (Pos.ofSucc 17) (fun m B' tm σ => ∃ i n', m + i = kn ∧ B' = B ∧ tm = tmL 81 [(1, .ptr (Pos.ofSucc 13) 0), (2, .int .i64 above), (3, .ptr (Pos.ofSucc 16) 0), (6, .bool false), (67, .int .i64 (.ofNat kn)), (68, .int .i64 (.ofNat i))] ∧ σ = stB (.row (ck.map .val) 0 9 false false) mb [kd, .sl (Pos.ofSucc 14) 0 kn cap false, s1, s2, s3, mv, s4, s5, dn] n') ?_ (m := kn) ⟨0, _, rfl, rfl, by kernel_rfl, rfl⟩
      intro m B' tm σ ⟨i, n', hm', hB', ht, hs⟩
      subst hB' ht hs
      refine AW.seq1 ?_
      refine AW.run1 [0, 1, 2, 3, 6, 7, 8, 36, 37, 38, 55, 64, 67, 68, 69, 79] (tm' := (tmL 81 [(1, (.ptr (Pos.ofSucc 13) 0)), (2, (.int .i64 (above))), (3, (.ptr (Pos.ofSucc 16) 0)), (6, (.bool false)), (67, (.int .i64 (.ofNat (kn)))), (68, (.int .i64 (.ofNat (i)))), (69, (.bool (ltI (Int.ofNat i) (Int.ofNat kn))))])) (σ' := (stS 13 [] [(13, .row [(.int .i64 (n'))] 3 1 false true), (14, .row (List.map AV.val ck) 0 9 false false), (15, (mb)), (16, .row [(kd), (.sl (Pos.ofSucc 14) 0 (kn) (cap) false), (s1), (s2), (s3), (mv), (s4), (s5), (dn)] 26 1 false true)] 17)) (by kernel_rfl) ?_
      refine thenQ_nrm ?_
      refine AW.seq1 ?_
      by_cases hlt : i < kn
      · have hx : ((ck.map AV.val).drop (0 + i * 9)).take 9 = ((ck.drop (i * 9)).take 9).map AV.val := by rw [Nat.zero_add, List.map_take, List.map_drop]
        have hl : 0 + i * 9 + 9 ≤ (ck.map AV.val).length := by rw [List.length_map, hck]; omega
        refine AW.condT (e := ltI (.ofNat i) (.ofNat kn)) (by kernel_rfl) (by rw [ltI_nat]; simpa using hlt) ?_
        refine AW.skip ?_
        refine thenQ_nrm ?_
        refine AW.seq1 ?_
        refine AW.block ?_
        refine AW.seq1 ?_
        refine AW.run1 [0, 1, 2, 3, 6, 7, 8, 36, 37, 38, 55, 64, 67, 68, 69, 79] (tm' := (tmL 81 [(1, (.ptr (Pos.ofSucc 13) 0)), (2, (.int .i64 (above))), (3, (.ptr (Pos.ofSucc 16) 0)), (6, (.bool false)), (8, (.int .i64 (.ofNat (i)))), (67, (.int .i64 (.ofNat (kn)))), (68, (.int .i64 (.ofNat (i)))), (69, (.bool (ltI (Int.ofNat i) (Int.ofNat kn))))])) (σ' := (stS 13 [] [(13, .row [(.int .i64 (n'))] 3 1 false true), (14, .row (List.map AV.val ck) 0 9 false false), (15, (mb)), (16, .row [(kd), (.sl (Pos.ofSucc 14) 0 (kn) (cap) false), (s1), (s2), (s3), (mv), (s4), (s5), (dn)] 26 1 false true)] 17)) (by kernel_rfl) ?_
        refine thenQ_nrm ?_
        refine AW.seq1 ?_
        refine AW.keepOut [0, 1, 2, 3, 6, 7, 8, 36, 37, 38, 55, 64, 67, 68, 69, 79] ?_
        refine AW.regionL [0, 1, 2, 3, 4, 5, 6, 7, 8] (by kernel_rfl) ?_
        refine AO.run1 [0, 1, 2] [3, 4, 5, 6, 7, 8] rfl (tm' := (tmL 81 [(1, (.ptr (Pos.ofSucc 13) 0)), (2, (.int .i64 (above))), (3, (.ptr (Pos.ofSucc 16) 0)), (6, (.bool false)), (8, (.int .i64 (.ofNat (i)))), (67, (.int .i64 (.ofNat (kn)))), (68, (.int .i64 (.ofNat (i)))), (69, (.bool (ltI (Int.ofNat i) (Int.ofNat kn)))), (71, (.ptr (Pos.ofSucc 16) 1)), (72, (.sl (Pos.ofSucc 14) 0 (kn) (cap) false)), (73, (.int .i64 (.ofNat (i))))])) (σ' := (stS 13 [] [(13, .row [(.int .i64 (n'))] 3 1 false true), (14, .row (List.map AV.val ck) 0 9 false false), (15, (mb)), (16, .row [(kd), (.sl (Pos.ofSucc 14) 0 (kn) (cap) false), (s1), (s2), (s3), (mv), (s4), (s5), (dn)] 26 1 false true)] 17)) (by kernel_rfl) ?_
        refine AO.index (t := 23) (e := 26) (b := (Pos.ofSucc 14)) (off := 0) (len := (kn)) (cap := (cap)) (opn := false) (k := .i64) (n := (i)) (sz := 9) rfl (by kernel_rfl) rfl (by kernel_rfl) (by kernel_rfl) (by kernel_rfl) (by kernel_rfl) (by omega) ?_
        refine AO.loadAgg (b := (Pos.ofSucc 14)) (off := (0 + i * 9)) (n := 9) (cells := (List.map AV.val ck)) (t' := 0) (sz := 9) (opn := false) (wr := false) (vs := (List.map AV.val (List.take 9 (List.drop (i * 9) ck)))) rfl (by kernel_rfl) rfl (by kernel_rfl) (by kernel_rfl) (by kernel_rfl) (by kernel_rfl) (by first | assumption | (simp; omega)) hx ?_
        refine AO.run1 [5, 6, 7] [8] rfl (tm' := (tmL 81 [(1, (.ptr (Pos.ofSucc 13) 0)), (2, (.int .i64 (above))), (3, (.ptr (Pos.ofSucc 16) 0)), (6, (.bool false)), (8, (.int .i64 (.ofNat (i)))), (67, (.int .i64 (.ofNat (kn)))), (68, (.int .i64 (.ofNat (i)))), (69, (.bool (ltI (Int.ofNat i) (Int.ofNat kn)))), (71, (.ptr (Pos.ofSucc 16) 1)), (72, (.sl (Pos.ofSucc 14) 0 (kn) (cap) false)), (73, (.int .i64 (.ofNat (i)))), (74, (.ptr (Pos.ofSucc 14) (0 + i * 9))), (75, (.agg (List.map AV.val (List.take 9 (List.drop (i * 9) ck))))), (76, (.ptr (Pos.ofSucc 13) 0)), (77, (.int .i64 (above))), (78, (.int .i64 (wrapA IntKind.i64 (above + 1))))])) (σ' := (stS 13 [] [(13, .row [(.int .i64 (n'))] 3 1 false true), (14, .row (List.map AV.val ck) 0 9 false false), (15, (mb)), (16, .row [(kd), (.sl (Pos.ofSucc 14) 0 (kn) (cap) false), (s1), (s2), (s3), (mv), (s4), (s5), (dn)] 26 1 false true)] 17)) (by kernel_rfl) ?_
        refine AO.call (f := 10) (args := [(.agg (List.map AV.val (List.take 9 (List.drop (i * 9) ck)))), (.ptr (Pos.ofSucc 13) 0), (.int .i64 (wrapA IntKind.i64 (above + 1)))]) rfl (by kernel_rfl) rfl (by kernel_rfl) ?_
        refine (hcall i _ n' _ hlt rfl).mono ?_
        rintro B2 v σ2 ⟨rfl, b, n2, rfl, rfl⟩
        refine AO.nil (nrmQ_mk ?_)
        refine keepQ_nrm (tm' := (tmL 81 [(1, (.ptr (Pos.ofSucc 13) 0)), (2, (.int .i64 (above))), (3, (.ptr (Pos.ofSucc 16) 0)), (6, (.bool false)), (8, (.int .i64 (.ofNat (i)))), (67, (.int .i64 (.ofNat (kn)))), (68, (.int .i64 (.ofNat (i)))), (69, (.bool (ltI (Int.ofNat i) (Int.ofNat kn)))), (79, (.bool (b)))])) (by kernel_rfl) ?_
        refine thenQ_nrm ?_
        cases b with
        | true =>
          refine AW.cond (b := true) (by kernel_rfl) ?_
          refine AW.seq1 ?_
          refine AW.run1 [0, 1, 2, 3, 6, 7, 8, 36, 37, 38, 55, 64, 67, 68, 69, 79] (tm' := (tmL 81 [(1, (.ptr (Pos.ofSucc 13) 0)), (2, (.int .i64 (above))), (3, (.ptr (Pos.ofSucc 16) 0)), (6, (.bool true)), (8, (.int .i64 (.ofNat (i)))), (67, (.int .i64 (.ofNat (kn)))), (68, (.int .i64 (.ofNat (i)))), (69, (.bool (ltI (Int.ofNat i) (Int.ofNat kn)))), (79, (.bool true))])) (σ' := (stS 13 [] [(13, .row [(.int .i64 (n2))] 3 1 false true), (14, .row (List.map AV.val ck) 0 9 false false), (15, (mb)), (16, .row [(kd), (.sl (Pos.ofSucc 14) 0 (kn) (cap) false), (s1), (s2), (s3), (mv), (s4), (s5), (dn)] 26 1 false true)] 17)) (by kernel_rfl) ?_
          refine thenQ_nrm ?_
          refine AW.ret ?_
          refine inBlock_ret ?_
          refine thenQ_ret ?_
          refine keepQ_ret ?_
          refine nxQ_ret ?_
          refine loopQ_ret ?_
          refine inBlock_ret ?_
          refine thenQ_ret ?_
          exact ⟨.bool true, by kernel_rfl, rfl, true, _, rfl, rfl⟩
        | false =>
          refine AW.cond (b := false) (by kernel_rfl) ?_
          refine AW.skip ?_
          refine inBlock_nrm ?_
          refine thenQ_nrm ?_
          refine AW.run1 [0, 1, 2, 3, 6, 7, 8, 36, 37, 38, 55, 64, 67, 68, 69, 79] (tm' := (tmL 81 [(1, (.ptr (Pos.ofSucc 13) 0)), (2, (.int .i64 (above))), (3, (.ptr (Pos.ofSucc 16) 0)), (6, (.bool false)), (8, (.int .i64 (.ofNat (i)))), (67, (.int .i64 (.ofNat (kn)))), (68, (.int .i64 (wrapA IntKind.i64 (Int.ofNat i + 1)))), (69, (.bool (ltI (Int.ofNat i) (Int.ofNat kn)))), (79, (.bool false))])) (σ' := (stS 13 [] [(13, .row [(.int .i64 (n2))] 3 1 false true), (14, .row (List.map AV.val ck) 0 9 false false), (15, (mb)), (16, .row [(kd), (.sl (Pos.ofSucc 14) 0 (kn) (cap) false), (s1), (s2), (s3), (mv), (s4), (s5), (dn)] 26 1 false true)] 17)) (by kernel_rfl) ?_
          refine keepQ_nrm (tm' := (tmL 81 [(1, (.ptr (Pos.ofSucc 13) 0)), (2, (.int .i64 (above))), (3, (.ptr (Pos.ofSucc 16) 0)), (6, (.bool false)), (67, (.int .i64 (.ofNat (kn)))), (68, (.int .i64 (wrapA IntKind.i64 (Int.ofNat i + 1))))])) (by kernel_rfl) ?_
          refine nxQ_nrm (σ' := (stS 13 [] [(13, .row [(.int .i64 (n2))] 3 1 false true), (14, .row (List.map AV.val ck) 0 9 false false), (15, (mb)), (16, .row [(kd), (.sl (Pos.ofSucc 14) 0 (kn) (cap) false), (s1), (s2), (s3), (mv), (s4), (s5), (dn)] 26 1 false true)] 17)) (by kernel_rfl) ?_
          refine loopQ_nrm (m - 1) (by omega) ⟨i + 1, _, by omega, rfl, ?_, rfl⟩
          have e1 : wrapA .i64 (Int.ofNat i + 1) = Int.ofNat (i + 1) := wrapA_nat _ (by have := hlen; omega)
          rw [e1]
      · refine AW.condF (e := ltI (.ofNat i) (.ofNat kn)) (by kernel_rfl) (by rw [ltI_nat]; simpa using hlt) ?_
        refine AW.exit ?_
        refine thenQ_ex ?_
        refine keepQ_ex ?_
        refine nxQ_ex ?_
        refine loopQ_ex ?_
        refine inBlock_ex ?_
        refine thenQ_nrm ?_
        refine AW.seq1 ?_
        refine AW.run1 [0, 1, 2, 3, 6, 7, 8, 36, 37, 38, 55, 64, 67, 68, 69, 79] (tm' := (tmL 81 [(1, (.ptr (Pos.ofSucc 13) 0)), (2, (.int .i64 (above))), (3, (.ptr (Pos.ofSucc 16) 0)), (6, (.bool false)), (67, (.int .i64 (.ofNat (kn)))), (68, (.int .i64 (.ofNat (i)))), (69, (.bool (ltI (Int.ofNat i) (Int.ofNat kn))))])) (σ' := (stS 13 [] [(13, .row [(.int .i64 (n'))] 3 1 false true), (14, .row (List.map AV.val ck) 0 9 false false), (15, (mb)), (16, .row [(kd), (.sl (Pos.ofSucc 14) 0 (kn) (cap) false), (s1), (s2), (s3), (mv), (s4), (s5), (dn)] 26 1 false true)] 17)) (by kernel_rfl) ?_
        refine thenQ_nrm ?_
        refine AW.ret ?_
        exact ⟨.bool false, by kernel_rfl, rfl, false, _, rfl, rfl⟩

/-- No kids. -/
theorem counts_kids_nil (B : Bd) (above n : Int) (kb mb : ABlk) (kd s1 s2 s3 mv s4 s5 dn : AV) :
    AW Tryz.prog 13 17 B cB (tmB above) (stB kb mb [kd, .nils, s1, s2, s3, mv, s4, s5, dn] n) (BodyQ Tryz.prog 13 Tryz.f10 (KC B)) := by
  refine AW.seq1 ?_
  refine AW.seq1 ?_
  refine AW.keepOut [0, 1, 2, 3, 6, 7, 8, 36, 37, 38, 55, 64, 67, 68, 69, 79] ?_
  refine AW.regionL [0, 1, 2, 3, 4, 5, 6, 7] (by kernel_rfl) ?_
  refine AO.run1 [0, 1, 2, 3, 4] [5, 6, 7] rfl (tm' := (tmL 81 [(1, (.ptr (Pos.ofSucc 13) 0)), (2, (.int .i64 (above))), (3, (.ptr (Pos.ofSucc 16) 0)), (6, (.bool false)), (57, (.ptr (Pos.ofSucc 13) 0)), (58, (.ptr (Pos.ofSucc 13) 0)), (59, (.int .i64 (n))), (60, (.bool (ltI 134217728 n))), (61, (.bool (ltI 134217728 n)))])) (σ' := (stS 13 [] [(13, .row [(.int .i64 (n))] 3 1 false true), (14, (kb)), (15, (mb)), (16, .row [(kd), .nils, (s1), (s2), (s3), (mv), (s4), (s5), (dn)] 26 1 false true)] 17)) (by kernel_rfl) ?_
  rcases Bool.eq_false_or_eq_true (ltI 134217728 n) with hb | hb <;> rw [hb]
  · refine AO.run1 [5, 6, 7] [] rfl (tm' := (tmL 81 [(1, (.ptr (Pos.ofSucc 13) 0)), (2, (.int .i64 (above))), (3, (.ptr (Pos.ofSucc 16) 0)), (6, (.bool false)), (57, (.ptr (Pos.ofSucc 13) 0)), (58, (.ptr (Pos.ofSucc 13) 0)), (59, (.int .i64 (n))), (60, (.bool true)), (61, (.bool true)), (62, (.tup [])), (63, (.tup [])), (64, (.bool true))])) (σ' := (stS 13 [] [(13, .row [(.int .i64 (n))] 3 1 false true), (14, (kb)), (15, (mb)), (16, .row [(kd), .nils, (s1), (s2), (s3), (mv), (s4), (s5), (dn)] 26 1 false true)] 17)) (by kernel_rfl) ?_
    refine AO.nil (nrmQ_mk ?_)
    refine keepQ_nrm (tm' := (tmL 81 [(1, (.ptr (Pos.ofSucc 13) 0)), (2, (.int .i64 (above))), (3, (.ptr (Pos.ofSucc 16) 0)), (6, (.bool false)), (64, (.bool true))])) (by kernel_rfl) ?_
    refine thenQ_nrm ?_
    refine AW.cond (b := true) (by kernel_rfl) ?_
    refine AW.seq1 ?_
    refine AW.run1 [0, 1, 2, 3, 6, 7, 8, 36, 37, 38, 55, 64, 67, 68, 69, 79] (tm' := (tmL 81 [(1, (.ptr (Pos.ofSucc 13) 0)), (2, (.int .i64 (above))), (3, (.ptr (Pos.ofSucc 16) 0)), (6, (.bool true)), (64, (.bool true))])) (σ' := (stS 13 [] [(13, .row [(.int .i64 (n))] 3 1 false true), (14, (kb)), (15, (mb)), (16, .row [(kd), .nils, (s1), (s2), (s3), (mv), (s4), (s5), (dn)] 26 1 false true)] 17)) (by kernel_rfl) ?_
    refine thenQ_nrm ?_
    refine AW.ret ?_
    refine thenQ_ret ?_
    exact ⟨.bool true, by kernel_rfl, rfl, true, _, rfl, rfl⟩
  · refine AO.run1 [5, 6, 7] [] rfl (tm' := (tmL 81 [(1, (.ptr (Pos.ofSucc 13) 0)), (2, (.int .i64 (above))), (3, (.ptr (Pos.ofSucc 16) 0)), (6, (.bool false)), (57, (.ptr (Pos.ofSucc 13) 0)), (58, (.ptr (Pos.ofSucc 13) 0)), (59, (.int .i64 (n))), (60, (.bool false)), (61, (.bool false)), (62, (.int .i64 (above))), (63, (.bool (ltI 65536 above))), (64, (.bool (ltI 65536 above)))])) (σ' := (stS 13 [] [(13, .row [(.int .i64 (n))] 3 1 false true), (14, (kb)), (15, (mb)), (16, .row [(kd), .nils, (s1), (s2), (s3), (mv), (s4), (s5), (dn)] 26 1 false true)] 17)) (by kernel_rfl) ?_
    refine AO.nil (nrmQ_mk ?_)
    refine keepQ_nrm (tm' := (tmL 81 [(1, (.ptr (Pos.ofSucc 13) 0)), (2, (.int .i64 (above))), (3, (.ptr (Pos.ofSucc 16) 0)), (6, (.bool false)), (64, (.bool (ltI 65536 above)))])) (by kernel_rfl) ?_
    refine thenQ_nrm ?_
    refine AW.condE (e := (ltI 65536 above)) (by kernel_rfl) (fun hb => ?_) (fun hb => ?_)
    · refine AW.seq1 ?_
      refine AW.run1 [0, 1, 2, 3, 6, 7, 8, 36, 37, 38, 55, 64, 67, 68, 69, 79] (tm' := (tmL 81 [(1, (.ptr (Pos.ofSucc 13) 0)), (2, (.int .i64 (above))), (3, (.ptr (Pos.ofSucc 16) 0)), (6, (.bool true)), (64, (.bool (ltI 65536 above)))])) (σ' := (stS 13 [] [(13, .row [(.int .i64 (n))] 3 1 false true), (14, (kb)), (15, (mb)), (16, .row [(kd), .nils, (s1), (s2), (s3), (mv), (s4), (s5), (dn)] 26 1 false true)] 17)) (by kernel_rfl) ?_
      refine thenQ_nrm ?_
      refine AW.ret ?_
      refine thenQ_ret ?_
      exact ⟨.bool true, by kernel_rfl, rfl, true, _, rfl, rfl⟩
    · refine AW.skip ?_
      refine thenQ_nrm ?_
      refine AW.seq1 ?_
      refine AW.seq1 ?_
      refine AW.run1 [0, 1, 2, 3, 6, 7, 8, 36, 37, 38, 55, 64, 67, 68, 69, 79] (tm' := (tmL 81 [(1, (.ptr (Pos.ofSucc 13) 0)), (2, (.int .i64 (above))), (3, (.ptr (Pos.ofSucc 16) 0)), (6, (.bool false)), (64, (.bool (ltI 65536 above))), (67, (.int .i64 (.ofNat 0))), (68, (.int .i64 (.ofNat 0)))])) (σ' := (stS 13 [] [(13, .row [(.int .i64 (n))] 3 1 false true), (14, (kb)), (15, (mb)), (16, .row [(kd), .nils, (s1), (s2), (s3), (mv), (s4), (s5), (dn)] 26 1 false true)] 17)) (by kernel_rfl) ?_
      refine thenQ_nrm ?_
      refine AW.block ?_
      refine AW.loop0 ?_
      refine AW.seq1 ?_
      refine AW.run1 [0, 1, 2, 3, 6, 7, 8, 36, 37, 38, 55, 64, 67, 68, 69, 79] (tm' := (tmL 81 [(1, (.ptr (Pos.ofSucc 13) 0)), (2, (.int .i64 (above))), (3, (.ptr (Pos.ofSucc 16) 0)), (6, (.bool false)), (64, (.bool (ltI 65536 above))), (67, (.int .i64 (.ofNat 0))), (68, (.int .i64 (.ofNat 0))), (69, (.bool false))])) (σ' := (stS 13 [] [(13, .row [(.int .i64 (n))] 3 1 false true), (14, (kb)), (15, (mb)), (16, .row [(kd), .nils, (s1), (s2), (s3), (mv), (s4), (s5), (dn)] 26 1 false true)] 17)) (by kernel_rfl) ?_
      refine thenQ_nrm ?_
      refine AW.seq1 ?_
      refine AW.cond (b := false) (by kernel_rfl) ?_
      refine AW.exit ?_
      refine thenQ_ex ?_
      refine loopQ_ex ?_
      refine inBlock_ex ?_
      refine thenQ_nrm ?_
      refine AW.seq1 ?_
      refine AW.run1 [0, 1, 2, 3, 6, 7, 8, 36, 37, 38, 55, 64, 67, 68, 69, 79] (tm' := (tmL 81 [(1, (.ptr (Pos.ofSucc 13) 0)), (2, (.int .i64 (above))), (3, (.ptr (Pos.ofSucc 16) 0)), (6, (.bool false)), (64, (.bool (ltI 65536 above))), (67, (.int .i64 (.ofNat 0))), (68, (.int .i64 (.ofNat 0))), (69, (.bool false))])) (σ' := (stS 13 [] [(13, .row [(.int .i64 (n))] 3 1 false true), (14, (kb)), (15, (mb)), (16, .row [(kd), .nils, (s1), (s2), (s3), (mv), (s4), (s5), (dn)] 26 1 false true)] 17)) (by kernel_rfl) ?_
      refine thenQ_nrm ?_
      refine AW.ret ?_
      exact ⟨.bool false, by kernel_rfl, rfl, false, _, rfl, rfl⟩

/-- No kids. -/
theorem counts_kids_emp (B : Bd) (above n : Int) (kb mb : ABlk) (kd s1 s2 s3 mv s4 s5 dn : AV) :
    AW Tryz.prog 13 17 B cB (tmB above) (stB kb mb [kd, .sle, s1, s2, s3, mv, s4, s5, dn] n) (BodyQ Tryz.prog 13 Tryz.f10 (KC B)) := by
  refine AW.seq1 ?_
  refine AW.seq1 ?_
  refine AW.keepOut [0, 1, 2, 3, 6, 7, 8, 36, 37, 38, 55, 64, 67, 68, 69, 79] ?_
  refine AW.regionL [0, 1, 2, 3, 4, 5, 6, 7] (by kernel_rfl) ?_
  refine AO.run1 [0, 1, 2, 3, 4] [5, 6, 7] rfl (tm' := (tmL 81 [(1, (.ptr (Pos.ofSucc 13) 0)), (2, (.int .i64 (above))), (3, (.ptr (Pos.ofSucc 16) 0)), (6, (.bool false)), (57, (.ptr (Pos.ofSucc 13) 0)), (58, (.ptr (Pos.ofSucc 13) 0)), (59, (.int .i64 (n))), (60, (.bool (ltI 134217728 n))), (61, (.bool (ltI 134217728 n)))])) (σ' := (stS 13 [] [(13, .row [(.int .i64 (n))] 3 1 false true), (14, (kb)), (15, (mb)), (16, .row [(kd), .sle, (s1), (s2), (s3), (mv), (s4), (s5), (dn)] 26 1 false true)] 17)) (by kernel_rfl) ?_
  rcases Bool.eq_false_or_eq_true (ltI 134217728 n) with hb | hb <;> rw [hb]
  · refine AO.run1 [5, 6, 7] [] rfl (tm' := (tmL 81 [(1, (.ptr (Pos.ofSucc 13) 0)), (2, (.int .i64 (above))), (3, (.ptr (Pos.ofSucc 16) 0)), (6, (.bool false)), (57, (.ptr (Pos.ofSucc 13) 0)), (58, (.ptr (Pos.ofSucc 13) 0)), (59, (.int .i64 (n))), (60, (.bool true)), (61, (.bool true)), (62, (.tup [])), (63, (.tup [])), (64, (.bool true))])) (σ' := (stS 13 [] [(13, .row [(.int .i64 (n))] 3 1 false true), (14, (kb)), (15, (mb)), (16, .row [(kd), .sle, (s1), (s2), (s3), (mv), (s4), (s5), (dn)] 26 1 false true)] 17)) (by kernel_rfl) ?_
    refine AO.nil (nrmQ_mk ?_)
    refine keepQ_nrm (tm' := (tmL 81 [(1, (.ptr (Pos.ofSucc 13) 0)), (2, (.int .i64 (above))), (3, (.ptr (Pos.ofSucc 16) 0)), (6, (.bool false)), (64, (.bool true))])) (by kernel_rfl) ?_
    refine thenQ_nrm ?_
    refine AW.cond (b := true) (by kernel_rfl) ?_
    refine AW.seq1 ?_
    refine AW.run1 [0, 1, 2, 3, 6, 7, 8, 36, 37, 38, 55, 64, 67, 68, 69, 79] (tm' := (tmL 81 [(1, (.ptr (Pos.ofSucc 13) 0)), (2, (.int .i64 (above))), (3, (.ptr (Pos.ofSucc 16) 0)), (6, (.bool true)), (64, (.bool true))])) (σ' := (stS 13 [] [(13, .row [(.int .i64 (n))] 3 1 false true), (14, (kb)), (15, (mb)), (16, .row [(kd), .sle, (s1), (s2), (s3), (mv), (s4), (s5), (dn)] 26 1 false true)] 17)) (by kernel_rfl) ?_
    refine thenQ_nrm ?_
    refine AW.ret ?_
    refine thenQ_ret ?_
    exact ⟨.bool true, by kernel_rfl, rfl, true, _, rfl, rfl⟩
  · refine AO.run1 [5, 6, 7] [] rfl (tm' := (tmL 81 [(1, (.ptr (Pos.ofSucc 13) 0)), (2, (.int .i64 (above))), (3, (.ptr (Pos.ofSucc 16) 0)), (6, (.bool false)), (57, (.ptr (Pos.ofSucc 13) 0)), (58, (.ptr (Pos.ofSucc 13) 0)), (59, (.int .i64 (n))), (60, (.bool false)), (61, (.bool false)), (62, (.int .i64 (above))), (63, (.bool (ltI 65536 above))), (64, (.bool (ltI 65536 above)))])) (σ' := (stS 13 [] [(13, .row [(.int .i64 (n))] 3 1 false true), (14, (kb)), (15, (mb)), (16, .row [(kd), .sle, (s1), (s2), (s3), (mv), (s4), (s5), (dn)] 26 1 false true)] 17)) (by kernel_rfl) ?_
    refine AO.nil (nrmQ_mk ?_)
    refine keepQ_nrm (tm' := (tmL 81 [(1, (.ptr (Pos.ofSucc 13) 0)), (2, (.int .i64 (above))), (3, (.ptr (Pos.ofSucc 16) 0)), (6, (.bool false)), (64, (.bool (ltI 65536 above)))])) (by kernel_rfl) ?_
    refine thenQ_nrm ?_
    refine AW.condE (e := (ltI 65536 above)) (by kernel_rfl) (fun hb => ?_) (fun hb => ?_)
    · refine AW.seq1 ?_
      refine AW.run1 [0, 1, 2, 3, 6, 7, 8, 36, 37, 38, 55, 64, 67, 68, 69, 79] (tm' := (tmL 81 [(1, (.ptr (Pos.ofSucc 13) 0)), (2, (.int .i64 (above))), (3, (.ptr (Pos.ofSucc 16) 0)), (6, (.bool true)), (64, (.bool (ltI 65536 above)))])) (σ' := (stS 13 [] [(13, .row [(.int .i64 (n))] 3 1 false true), (14, (kb)), (15, (mb)), (16, .row [(kd), .sle, (s1), (s2), (s3), (mv), (s4), (s5), (dn)] 26 1 false true)] 17)) (by kernel_rfl) ?_
      refine thenQ_nrm ?_
      refine AW.ret ?_
      refine thenQ_ret ?_
      exact ⟨.bool true, by kernel_rfl, rfl, true, _, rfl, rfl⟩
    · refine AW.skip ?_
      refine thenQ_nrm ?_
      refine AW.seq1 ?_
      refine AW.seq1 ?_
      refine AW.run1 [0, 1, 2, 3, 6, 7, 8, 36, 37, 38, 55, 64, 67, 68, 69, 79] (tm' := (tmL 81 [(1, (.ptr (Pos.ofSucc 13) 0)), (2, (.int .i64 (above))), (3, (.ptr (Pos.ofSucc 16) 0)), (6, (.bool false)), (64, (.bool (ltI 65536 above))), (67, (.int .i64 (.ofNat 0))), (68, (.int .i64 (.ofNat 0)))])) (σ' := (stS 13 [] [(13, .row [(.int .i64 (n))] 3 1 false true), (14, (kb)), (15, (mb)), (16, .row [(kd), .sle, (s1), (s2), (s3), (mv), (s4), (s5), (dn)] 26 1 false true)] 17)) (by kernel_rfl) ?_
      refine thenQ_nrm ?_
      refine AW.block ?_
      refine AW.loop0 ?_
      refine AW.seq1 ?_
      refine AW.run1 [0, 1, 2, 3, 6, 7, 8, 36, 37, 38, 55, 64, 67, 68, 69, 79] (tm' := (tmL 81 [(1, (.ptr (Pos.ofSucc 13) 0)), (2, (.int .i64 (above))), (3, (.ptr (Pos.ofSucc 16) 0)), (6, (.bool false)), (64, (.bool (ltI 65536 above))), (67, (.int .i64 (.ofNat 0))), (68, (.int .i64 (.ofNat 0))), (69, (.bool false))])) (σ' := (stS 13 [] [(13, .row [(.int .i64 (n))] 3 1 false true), (14, (kb)), (15, (mb)), (16, .row [(kd), .sle, (s1), (s2), (s3), (mv), (s4), (s5), (dn)] 26 1 false true)] 17)) (by kernel_rfl) ?_
      refine thenQ_nrm ?_
      refine AW.seq1 ?_
      refine AW.cond (b := false) (by kernel_rfl) ?_
      refine AW.exit ?_
      refine thenQ_ex ?_
      refine loopQ_ex ?_
      refine inBlock_ex ?_
      refine thenQ_nrm ?_
      refine AW.seq1 ?_
      refine AW.run1 [0, 1, 2, 3, 6, 7, 8, 36, 37, 38, 55, 64, 67, 68, 69, 79] (tm' := (tmL 81 [(1, (.ptr (Pos.ofSucc 13) 0)), (2, (.int .i64 (above))), (3, (.ptr (Pos.ofSucc 16) 0)), (6, (.bool false)), (64, (.bool (ltI 65536 above))), (67, (.int .i64 (.ofNat 0))), (68, (.int .i64 (.ofNat 0))), (69, (.bool false))])) (σ' := (stS 13 [] [(13, .row [(.int .i64 (n))] 3 1 false true), (14, (kb)), (15, (mb)), (16, .row [(kd), .sle, (s1), (s2), (s3), (mv), (s4), (s5), (dn)] 26 1 false true)] 17)) (by kernel_rfl) ?_
      refine thenQ_nrm ?_
      refine AW.ret ?_
      exact ⟨.bool false, by kernel_rfl, rfl, false, _, rfl, rfl⟩

end --all
end Go.Ev

namespace Go.Ev
open Go.Proofs
noncomputable section --all

/-! ### counts, of any filter -/

theorem VR.val_inv {ρ : Rho} {u v : Value} (h : VR ρ (.val u) v) : v = u := by cases h; rfl

theorem agg_val {ρ : Rho} {cs : List Value} {v : Value} (h : VR ρ (.agg (cs.map .val)) v) : v = .agg cs.toArray := by
  obtain ⟨vs, rfl, h1, h2⟩ := VRs.of_agg h
  congr 1
  apply Array.ext'
  simp only
  rw [List.length_map] at h1
  apply List.ext_getElem?
  intro i
  rcases Nat.lt_or_ge i cs.length with hi | hi
  · have e1 : (cs.map AV.val)[i]? = some (.val cs[i]) := by simp [hi]
    have e2 : vs.toList[i]? = some vs.toList[i] := by rw [List.getElem?_eq_getElem]
    have h3 := (h2 i _ _ e1 e2).val_inv
    rw [e2, h3]
    simp [hi]
  · rw [List.getElem?_eq_none (by omega), List.getElem?_eq_none (by omega)]

theorem VRs.three {ρ : Rho} {a b c : AV} {vs : Array Value} (h : VRs ρ [a, b, c] vs.toList) : ∃ x y z, vs = #[x, y, z] ∧ VR ρ a x ∧ VR ρ b y ∧ VR ρ c z := by
  obtain ⟨l⟩ := vs
  simp only at h
  match l, h with
  | [x, y, z], h => exact ⟨x, y, z, rfl, h.2 0 _ _ rfl rfl, h.2 1 _ _ rfl rfl, h.2 2 _ _ rfl rfl⟩
  | [], h => have := h.1; simp at this
  | [_], h => have := h.1; simp at this
  | [_, _], h => have := h.1; simp at this
  | _ :: _ :: _ :: _ :: _, h => have := h.1; simp at this

/-- The contract. -/
def CSpec (H : Nat → Option Obj) (ok : Nat → Prop) (cells : List Value) : Prop :=
  ∀ (ρ0 : Rho) (B0 : Bd) (w : World) (l : Loc) (n above : Int), (∀ b, ok b → b < w.heap.size ∧ w.heap[b]? = H b ∧ b ≠ l.blk) → BlkRel ρ0 B0 w l (.row [.int .i64 n] 3 1 false true) →
    Spec Tryz.prog 10 #[.agg cells.toArray, .pointer (some ⟨l.blk, l.off + 0, none⟩), .int .i64 above] w (· = l.blk) fun v' w' => ∃ b n', v' = .bool b ∧ ∀ (ρ : Rho) (B : Bd), B.mod l.blk → BlkRel ρ B w' l (.row [.int .i64 n'] 3 1 false true)

/-- What a call of counts comes to; p: where the number lies. -/
def KSp (p : Pos) (B : Bd) (σ : St) : Bd → AV → St → Prop := fun B' v σ' => B' = B ∧ ∃ b n', v = .bool b ∧ σ' = { σ with hp := σ.hp.set (.row [.int .i64 n'] 3 1 false true) p }

/-- As it is met in a walk. -/
theorem counts_met (p : Pos) {H : Nat → Option Obj} {ok : Nat → Prop} {cells : List Value} (S : CSpec H ok cells) {B : Bd} (hok : ∀ b, ok b → ¬ B.mod b ∧ B.H0 b = H b) {σ : St} {n a : Int} (hσ : σ.hp.get p = some (.row [.int .i64 n] 3 1 false true)) :
    AC Tryz.prog 13 B 10 [.agg (cells.map .val), .ptr p 0, .int .i64 a] σ (KSp p B σ) := by
  refine AC.of_spec fun ρ w vs hg hR hv => ?_
  obtain ⟨x, y, z, rfl, h1, h2, h3⟩ := hv.three
  have := agg_val h1
  subst this
  cases h3
  cases h2 with
  | ptr hl =>
    rename_i l
    have hb := hR.at_ hσ hl
    have hm : B.mod l.blk := by
      obtain ⟨arr, tt, lo, hi, _, _, _, h4, _⟩ := hb
      exact h4 rfl
    refine ⟨_, _, S ρ B w l n a (fun b hb => ⟨hR.mod_lt (hok b hb).1, (hR.old b (hok b hb).1).trans (hok b hb).2, fun e => (hok b hb).1 (e ▸ hm)⟩) hb, fun v' w' hp hbel hk => ?_⟩
    obtain ⟨b, n', rfl, hn⟩ := hp
    exact ⟨B, .bool b, { σ with hp := σ.hp.set (.row [.int .i64 n'] 3 1 false true) p }, ρ, .bool b, Rho.le_refl _, hR.kept1 hσ rfl hl hm hbel.size (fun j hj hne => hk j hj hne) (hn ρ B hm), rfl, b, n', rfl, rfl⟩

/-- The slice's block in a small state. -/
theorem SlC.blk {H : Nat → Option Obj} {ok : Nat → Prop} {v : Value} {n : Nat} {cs : List Value} (h : SlC H ok v n cs) : (v = .slice none 0 0 ∧ n = 0 ∧ cs = []) ∨ (∃ a cap, v = .slice (some a) 0 cap ∧ n = 0 ∧ cs = []) ∨
    ∃ b off cap arr ty z, v = .slice (some ⟨b, off, none⟩) n cap ∧ 0 < n ∧ n ≤ 9223372036854775807 ∧ ok b ∧ H b = some (.cells arr ty z) ∧ (arr.toList.drop off).take cs.length = cs := by
  cases h with
  | nil => exact .inl ⟨rfl, rfl, rfl⟩
  | emp a cap => exact .inr (.inl ⟨a, cap, rfl, rfl, rfl⟩)
  | row h1 h0 h2 h3 h4 => exact .inr (.inr ⟨_, _, _, _, _, _, rfl, h1, h0, h2, h3, h4⟩)

theorem BlkRel.read {ρ : Rho} {B : Bd} {w : World} {b off : Nat} {arr : Array Value} {ty : TypeId} {z : Nat × Nat} {cs : List Value} {xs : List AV} {t sz : Nat} (hw : w.heap[b]? = some (.cells arr ty z)) (hc : (arr.toList.drop off).take cs.length = cs) (hx : VRs ρ xs cs) (h0 : 0 < cs.length) :
    BlkRel ρ B w ⟨b, off, 0⟩ (.row xs t sz false false) := by
  have hl : off + cs.length ≤ arr.size := by
    have := congrArg List.length hc
    simp only [List.length_take, List.length_drop, Array.length_toList] at this
    omega
  refine ⟨arr, ty, z.1, z.2, hw, ?_, fun _ => rfl, (fun e => by cases e), (fun e => by cases e), fun i x v hx' hv => ?_⟩
  · have := hx.1; simp only [Nat.zero_mul, Nat.add_zero]; omega
  · have hi : i < cs.length := by rw [← hx.1]; exact (List.getElem?_eq_some_iff.1 hx').1
    refine hx.2 i x v hx' ?_
    rw [← hc, List.getElem?_take, if_pos (by omega), List.getElem?_drop]
    simpa using hv

theorem VRs.vals (ρ : Rho) (cs : List Value) : VRs ρ (cs.map .val) cs := by
  refine ⟨by simp, fun i x v hx hv => ?_⟩
  simp only [List.getElem?_map, hv, Option.map_some, Option.some.injEq] at hx
  subst hx
  exact .val v

theorem counts_spec {H : Nat → Option Obj} {ok : Nat → Prop} {t : FT} {cells : List Value} (h : IsF H ok t cells) : CSpec H ok cells := by
  induction h with
  | mk hk hkl hkids hm hml hms ih =>
    rename_i kind kids mids db vb sb eb rb dn vk vm ck cm
    intro ρ0 B0 w l n above hw hb
    have hkids2 : ∀ i, i < kids.length → CSpec H ok ((ck.drop (i * 9)).take 9) := fun i hi => ih i kids[i] (by simp [hi])
    have hok : ∀ b, ok b → ¬ (Bd.of w (· = l.blk)).mod b ∧ (Bd.of w (· = l.blk)).H0 b = H b := fun b hb => ⟨fun hm => hm.elim (fun h => by have := (hw b hb).1; omega) (hw b hb).2.2, (hw b hb).2.1⟩
    -- the kids
    obtain ⟨kav, kb, lk, hkv, hkb, hkw, hkok, hkAW⟩ : ∃ (kav : AV) (kb : ABlk) (lk : Loc), (∀ ρ : Rho, ρ (Pos.ofSucc 14) = some lk → VR ρ kav vk) ∧ (∀ ρ B, BlkRel ρ B w lk kb) ∧ kb.wrt = false ∧ (kb.live = true → ok lk.blk) ∧
        ∀ (n' : Int) (mb : ABlk) (kd s1 s2 s3 mv s4 s5 dn : AV), AW Tryz.prog 13 17 (Bd.of w (· = l.blk)) cB (tmB above) (stB kb mb [kd, kav, s1, s2, s3, mv, s4, s5, dn] n') (BodyQ Tryz.prog 13 Tryz.f10 (KC (Bd.of w (· = l.blk)))) := by
      rcases hk.blk with ⟨rfl, _, _⟩ | ⟨a, cap, rfl, _, _⟩ | ⟨b, off, cap, arr, ty, z, rfl, hn, hn2, hb1, hb2, hb3⟩
      · exact ⟨.nils, .dead, ⟨0, 0, 0⟩, fun _ _ => .nils, fun _ _ => trivial, rfl, (fun e => by cases e), fun n' mb kd s1 s2 s3 mv s4 s5 dn => counts_kids_nil _ _ _ _ _ _ _ _ _ _ _ _ _⟩
      · exact ⟨.sle, .dead, ⟨0, 0, 0⟩, fun _ _ => .sle a cap, fun _ _ => trivial, rfl, (fun e => by cases e), fun n' mb kd s1 s2 s3 mv s4 s5 dn => counts_kids_emp _ _ _ _ _ _ _ _ _ _ _ _ _⟩
      · refine ⟨.sl (Pos.ofSucc 14) 0 kids.length cap false, .row (ck.map .val) 0 9 false false, ⟨b, off, 0⟩, fun ρ hρ => VR.sl (opn := false) (o := 0) hρ, fun ρ B => BlkRel.read ((hw b hb1).2.1.trans hb2) hb3 (VRs.vals ρ ck) (by omega), rfl, fun _ => hb1, fun n' mb kd s1 s2 s3 mv s4 s5 dn => ?_⟩
        exact counts_kids _ above n' ck kids.length cap hn2 hkl mb kd s1 s2 s3 mv s4 s5 dn fun i a n σ hi hσ => counts_met (Pos.ofSucc 13) (hkids2 i hi) hok hσ
    -- the texts between
    obtain ⟨mav, mb, lm, hmv, hmb, hmw, hmok, hmAW⟩ : ∃ (mav : AV) (mb : ABlk) (lm : Loc), (∀ ρ : Rho, ρ (Pos.ofSucc 15) = some lm → VR ρ mav vm) ∧ (∀ ρ B, BlkRel ρ B w lm mb) ∧ mb.wrt = false ∧ (mb.live = true → ok lm.blk) ∧
        AW Tryz.prog 13 17 (Bd.of w (· = l.blk)) (codeOf Tryz.f10) (initTm 81 [.agg [.int .i8 kind, kav, .str (bytesOf db), .str (bytesOf vb), .str (bytesOf sb), mav, .str (bytesOf eb), .str (bytesOf rb), .bool dn], .ptr (Pos.ofSucc 13) 0, .int .i64 above])
          (stS 13 [] [(13, .row [.int .i64 n] 3 1 false true), (14, kb), (15, mb)] 16) (BodyQ Tryz.prog 13 Tryz.f10 (KC (Bd.of w (· = l.blk)))) := by
      rcases hm.blk with ⟨rfl, _, _⟩ | ⟨a, cap, rfl, _, _⟩ | ⟨b, off, cap, arr, ty, z, rfl, hn, hn2, hb1, hb2, hb3⟩
      · exact ⟨.nils, .dead, ⟨0, 0, 0⟩, fun _ _ => .nils, fun _ _ => trivial, rfl, (fun e => by cases e), counts_nil _ _ _ _ _ _ _ _ _ _ _ _ _ fun n' => hkAW n' _ _ _ _ _ _ _ _ _⟩
      · exact ⟨.sle, .dead, ⟨0, 0, 0⟩, fun _ _ => .sle a cap, fun _ _ => trivial, rfl, (fun e => by cases e), counts_emp _ _ _ _ _ _ _ _ _ _ _ _ _ fun n' => hkAW n' _ _ _ _ _ _ _ _ _⟩
      · refine ⟨.sl (Pos.ofSucc 15) 0 mids.length cap false, .row (mids.map .str) 0 1 false false, ⟨b, off, 0⟩, fun ρ hρ => VR.sl (opn := false) (o := 0) hρ, fun ρ B => BlkRel.read ((hw b hb1).2.1.trans hb2) hb3 ?_ (by omega), rfl, fun _ => hb1, ?_⟩
        · refine ⟨by simp [hml], fun i x v hx hv => ?_⟩
          have hi : i < mids.length := by rw [← hml]; exact (List.getElem?_eq_some_iff.1 hv).1
          obtain ⟨bb, h1, h2⟩ := hms i mids[i] (by simp [hi])
          simp only [List.getElem?_map, hi, List.getElem?_eq_getElem, Option.map_some, Option.some.injEq] at hx
          subst hx
          rw [h1] at hv
          cases hv
          exact .str h2
        · exact counts_row _ kind _ _ _ _ _ dn n above mids hn2 cap kav kb fun n' => hkAW n' _ _ _ _ _ _ _ _ _
    -- the call
    have hlk := hb
    obtain ⟨arr, tt, lo, hi, g1, g2, g3, g4, g5, g6⟩ := hlk
    let L : List (ABlk × Loc) := [(.row [.int .i64 n] 3 1 false true, l), (kb, lk), (mb, lm)]
    have hlt : l.blk < w.heap.size := (Array.getElem?_eq_some_iff.1 g1).1
    have hR : Rel (Bd.of w (· = l.blk)) (rhoL 13 L) (stL 13 [] L) w := by
      refine stL_rel (by simp) (by simp) (by simp) ⟨fun i x m hi => ?_, fun i j x y m m' hi hj hx hy e => ?_⟩ (fun j hj => .inl hj) (fun j hj => rfl)
      · match i, hi with
        | 0, hi => cases hi; exact hb.re (fun x hx v hv => by simp only [List.mem_singleton] at hx; subst hx; exact hv.int_any) (fun _ => .inr rfl)
        | 1, hi => cases hi; exact hkb _ _
        | 2, hi => cases hi; exact hmb _ _
        | i + 3, hi => cases hi
      · match i, hi with
        | 0, hi =>
          cases hi
          match j, hj with
          | 0, _ => rfl
          | 1, hj => cases hj; exact absurd e.symm (hw _ (hkok hy)).2.2
          | 2, hj => cases hj; exact absurd e.symm (hw _ (hmok hy)).2.2
          | j + 3, hj => cases hj
        | 1, hi => cases hi; rw [hkw] at hx; cases hx
        | 2, hi => cases hi; rw [hmw] at hx; cases hx
        | i + 3, hi => cases hi
    refine Spec.of_AC1 (nG := 13) (args := [.agg [.int .i8 kind, kav, .str (bytesOf db), .str (bytesOf vb), .str (bytesOf sb), mav, .str (bytesOf eb), .str (bytesOf rb), .bool dn], .ptr (Pos.ofSucc 13) 0, .int .i64 above])
      (K := fun v σ' => ∃ b n', v = .bool b ∧ σ'.hp.get (Pos.ofSucc 13) = some (.row [.int .i64 n'] 3 1 false true)) hR (globL 13 L) ?_ ?_ ?_
    · refine VRs.cons ?_ (VRs.cons (VR.ptr (o := 0) (rhoL_at (i := 0) rfl)) (VRs.cons (.int _ _) (VRs.nil _)))
      refine VRs.to_agg ?_
      exact VRs.cons (.int _ _) <| VRs.cons (hkv _ (rhoL_at (i := 1) (x := kb) rfl)) <| VRs.cons (.str rfl) <| VRs.cons (.str rfl) <| VRs.cons (.str rfl) <| VRs.cons (hmv _ (rhoL_at (i := 2) (x := mb) rfl)) <| VRs.cons (.str rfl) <| VRs.cons (.str rfl) <| VRs.cons (.bool _) <| VRs.nil _
    · refine AC.body 17 (fn := Tryz.f10) (c := codeOf Tryz.f10) (by kernel_rfl) (by decide) (fun b hb => ?_) hmAW
      exact stL_lt (nG := 13) (G := []) (L := L) (by simp) b hb
    · intro v v' σ' ρ' w' hv hle hR' ⟨b, n', hbv, hget⟩
      subst hbv
      cases hv
      refine ⟨b, n', rfl, fun ρ B hm => ?_⟩
      have := hR'.at_ hget (hle _ _ (rhoL_at (i := 0) rfl))
      exact this.re (fun x hx v hv => by simp only [List.mem_singleton] at hx; subst hx; exact hv.int_any) (fun _ => hm)
end --all
end Go.Ev

namespace Go.Ev
open Go.Proofs
noncomputable section --all

theorem VRs.one {ρ : Rho} {a : AV} {vs : Array Value} (h : VRs ρ [a] vs.toList) : ∃ x, vs = #[x] ∧ VR ρ a x := by
  obtain ⟨l⟩ := vs
  simp only at h
  match l, h with
  | [x], h => exact ⟨x, rfl, h.2 0 _ _ rfl rfl⟩
  | [], h => have := h.1; simp at this
  | _ :: _ :: _, h => have := h.1; simp at this

theorem VRs.zero {ρ : Rho} {vs : Array Value} (h : VRs ρ [] vs.toList) : vs = #[] := by
  obtain ⟨l⟩ := vs
  simp only at h
  match l, h with
  | [], h => rfl
  | _ :: _, h => have := h.1; simp at this

/-- beyond, of any filter: it answers. -/
theorem beyond_spec {H : Nat → Option Obj} {ok : Nat → Prop} {t : FT} {cells : List Value} (h : IsF H ok t cells) (w : World) (hw : ∀ b, ok b → b < w.heap.size ∧ w.heap[b]? = H b) :
    Spec Tryz.prog 4 #[.agg cells.toArray] w (fun _ => False) fun v' _ => ∃ b, v' = .bool b := by
  refine Spec.of_AC1 (nG := 13) (args := [.agg (cells.map .val)]) (K := fun v _ => ∃ b, v = .bool b) (rel_none w _) (globL 13 []) (VRs.cons ?_ (VRs.nil _)) ?_ ?_
  · exact (VRs.vals _ cells).to_agg
  · obtain ⟨kd, vk, s1, s2, s3, vm, s4, s5, dn, rfl⟩ : ∃ kd vk s1 s2 s3 vm s4 s5 dn, cells = [kd, vk, s1, s2, s3, vm, s4, s5, dn] := by
      cases h; exact ⟨_, _, _, _, _, _, _, _, _, rfl⟩
    refine AC.body 14 (fn := Tryz.f4) (c := codeOf Tryz.f4) (by kernel_rfl) (by decide) (fun b hb => stL_lt (nG := 13) (G := []) (L := []) (by simp) b hb) ?_
    refine AW.seq1 ?_
    refine AW.run1 [0, 1, 2, 3] (tm' := (tmL 6 [(0, (.agg [(.val (kd)), (.val (vk)), (.val (s1)), (.val (s2)), (.val (s3)), (.val (vm)), (.val (s4)), (.val (s5)), (.val (dn))])), (1, (.ptr (Pos.ofSucc 13) 0)), (2, (.bool false))])) (σ' := (stS 13 [] [(13, .row [(.val (kd)), (.val (vk)), (.val (s1)), (.val (s2)), (.val (s3)), (.val (vm)), (.val (s4)), (.val (s5)), (.val (dn))] 26 1 false true)] 14)) (by kernel_rfl) ?_
    refine thenQ_nrm ?_
    refine AW.seq1 ?_
    refine AW.run1 [0, 1, 2, 3] (tm' := (tmL 6 [(0, (.agg [(.val (kd)), (.val (vk)), (.val (s1)), (.val (s2)), (.val (s3)), (.val (vm)), (.val (s4)), (.val (s5)), (.val (dn))])), (1, (.ptr (Pos.ofSucc 13) 0)), (2, (.bool false)), (3, (.ptr (Pos.ofSucc 14) 0))])) (σ' := (stS 13 [] [(13, .row [(.val (kd)), (.val (vk)), (.val (s1)), (.val (s2)), (.val (s3)), (.val (vm)), (.val (s4)), (.val (s5)), (.val (dn))] 26 1 false true), (14, .row [(.int .i64 (.ofNat 0))] 3 1 false true)] 15)) (by kernel_rfl) ?_
    refine thenQ_nrm ?_
    refine AW.seq1 ?_
    refine AW.keepOut [0, 1, 2, 3] ?_
    refine AW.regionL [0, 1, 2] (by kernel_rfl) ?_
    refine AO.run1 [0] [1, 2] rfl (tm' := (tmL 6 [(0, (.agg [(.val (kd)), (.val (vk)), (.val (s1)), (.val (s2)), (.val (s3)), (.val (vm)), (.val (s4)), (.val (s5)), (.val (dn))])), (1, (.ptr (Pos.ofSucc 13) 0)), (2, (.bool false)), (3, (.ptr (Pos.ofSucc 14) 0)), (4, (.agg [(.val (kd)), (.val (vk)), (.val (s1)), (.val (s2)), (.val (s3)), (.val (vm)), (.val (s4)), (.val (s5)), (.val (dn))]))])) (σ' := (stS 13 [] [(13, .row [(.val (kd)), (.val (vk)), (.val (s1)), (.val (s2)), (.val (s3)), (.val (vm)), (.val (s4)), (.val (s5)), (.val (dn))] 26 1 false true), (14, .row [(.int .i64 (.ofNat 0))] 3 1 false true)] 15)) (by kernel_rfl) ?_
    refine AO.call (f := 10) (args := [(.agg [(.val (kd)), (.val (vk)), (.val (s1)), (.val (s2)), (.val (s3)), (.val (vm)), (.val (s4)), (.val (s5)), (.val (dn))]), (.ptr (Pos.ofSucc 14) 0), (.int .i64 (.ofNat 0))]) rfl (by kernel_rfl) rfl (by kernel_rfl) ?_
    refine (counts_met (cells := [kd, vk, s1, s2, s3, vm, s4, s5, dn]) (Pos.ofSucc 14) (counts_spec h) (fun b hb => ⟨not_mod (hw b hb).1, (hw b hb).2⟩) rfl).mono ?_
    rintro B2 v σ2 ⟨rfl, b, n2, rfl, rfl⟩
    refine AO.run1 [2] [] rfl (tm' := (tmL 6 [(0, (.agg [(.val (kd)), (.val (vk)), (.val (s1)), (.val (s2)), (.val (s3)), (.val (vm)), (.val (s4)), (.val (s5)), (.val (dn))])), (1, (.ptr (Pos.ofSucc 13) 0)), (2, (.bool (b))), (3, (.ptr (Pos.ofSucc 14) 0)), (4, (.agg [(.val (kd)), (.val (vk)), (.val (s1)), (.val (s2)), (.val (s3)), (.val (vm)), (.val (s4)), (.val (s5)), (.val (dn))])), (5, (.bool (b)))])) (σ' := (stS 13 [] [(13, .row [(.val (kd)), (.val (vk)), (.val (s1)), (.val (s2)), (.val (s3)), (.val (vm)), (.val (s4)), (.val (s5)), (.val (dn))] 26 1 false true), (14, .row [(.int .i64 (n2))] 3 1 false true)] 15)) (by kernel_rfl) ?_
    refine AO.nil (nrmQ_mk ?_)
    refine keepQ_nrm (tm' := (tmL 6 [(0, (.agg [(.val (kd)), (.val (vk)), (.val (s1)), (.val (s2)), (.val (s3)), (.val (vm)), (.val (s4)), (.val (s5)), (.val (dn))])), (1, (.ptr (Pos.ofSucc 13) 0)), (2, (.bool (b))), (3, (.ptr (Pos.ofSucc 14) 0))])) (by kernel_rfl) ?_
    refine thenQ_nrm ?_
    refine AW.ret ?_
    refine ⟨(.bool (b)), by kernel_rfl, ?_⟩
    exact ⟨rfl, b, rfl⟩
  · intro v v' σ' ρ' w' hv hle hR' ⟨b, hb⟩
    subst hb
    cases hv
    exact ⟨b, rfl⟩

/-- What is known of works. -/
def WorksOk (B : Bd) : Prop := ∀ σ, AC Tryz.prog 13 B 5 [] σ fun B' v σ' => B' = B ∧ v = .bool true ∧ σ' = σ

/-- What is known of beyond. -/
def BeyondOk (B : Bd) (f : AV) : Prop := ∀ σ, AC Tryz.prog 13 B 4 [f] σ fun B' v σ' => B' = B ∧ (∃ b, v = .bool b) ∧ σ' = σ

theorem asks_nil (B : Bd) (kd : Int) (vk s1 s2 s3 vm s4 s5 : Value) (dn : Bool) :
    AC Tryz.prog 13 B 6 [.nilp, .agg [.int .i8 kd, .val vk, .val s1, .val s2, .val s3, .val vm, .val s4, .val s5, .bool dn]] (stL 13 [] []) fun B' v _ => B' = B ∧ v = .tup [.agg [.int .i8 0, .int .i64 0, .str [], .nils], .bool false, .bool false] := by
  refine AC.body 14 (fn := Tryz.f6) (c := codeOf Tryz.f6) (by kernel_rfl) (by decide) (stL_lt (by simp)) ?_
  refine AW.seq1 ?_
  refine AW.run1 [0, 1, 2, 3, 4, 5, 6, 7, 8, 10, 11, 12, 14, 16, 25, 45, 46, 49, 55, 61, 67, 72, 77, 100, 105, 120, 121, 122, 123, 135] (tm' := (tmL 139 [(0, .nilp), (1, (.agg [(.int .i8 (kd)), (.val (vk)), (.val (s1)), (.val (s2)), (.val (s3)), (.val (vm)), (.val (s4)), (.val (s5)), (.bool (dn))])), (2, (.ptr (Pos.ofSucc 13) 0)), (3, (.ptr (Pos.ofSucc 14) 0)), (4, (.ptr (Pos.ofSucc 15) 0)), (5, (.bool false)), (6, (.ptr (Pos.ofSucc 16) 0))])) (σ' := (stS 13 [] [(13, .row [.nilp] 51 1 false true), (14, .row [(.int .i8 (kd)), (.val (vk)), (.val (s1)), (.val (s2)), (.val (s3)), (.val (vm)), (.val (s4)), (.val (s5)), (.bool (dn))] 26 1 false true), (15, .row [(.int .i8 (.ofNat 0)), (.int .i64 (.ofNat 0)), (.str []), .nils] 35 1 false true), (16, .row [(.bool false)] 4 1 false true)] 17)) (by kernel_rfl) ?_
  refine thenQ_nrm ?_
  refine AW.seq1 ?_
  refine AW.seq1 ?_
  refine AW.keepOut [0, 1, 2, 3, 4, 5, 6, 7, 8, 10, 11, 12, 14, 16, 25, 45, 46, 49, 55, 61, 67, 72, 77, 100, 105, 120, 121, 122, 123, 135] ?_
  refine AW.regionL [0, 1, 2, 3, 4, 5, 6, 7, 8] (by kernel_rfl) ?_
  refine AO.run1 [0, 1, 2, 3] [4, 5, 6, 7, 8] rfl (tm' := (tmL 139 [(0, .nilp), (1, (.agg [(.int .i8 (kd)), (.val (vk)), (.val (s1)), (.val (s2)), (.val (s3)), (.val (vm)), (.val (s4)), (.val (s5)), (.bool (dn))])), (2, (.ptr (Pos.ofSucc 13) 0)), (3, (.ptr (Pos.ofSucc 14) 0)), (4, (.ptr (Pos.ofSucc 15) 0)), (5, (.bool false)), (6, (.ptr (Pos.ofSucc 16) 0)), (17, (.ptr (Pos.ofSucc 14) 0)), (18, (.int .i8 (kd))), (19, (.bool (ltI kd 3))), (20, (.bool (ltI kd 3)))])) (σ' := (stS 13 [] [(13, .row [.nilp] 51 1 false true), (14, .row [(.int .i8 (kd)), (.val (vk)), (.val (s1)), (.val (s2)), (.val (s3)), (.val (vm)), (.val (s4)), (.val (s5)), (.bool (dn))] 26 1 false true), (15, .row [(.int .i8 (.ofNat 0)), (.int .i64 (.ofNat 0)), (.str []), .nils] 35 1 false true), (16, .row [(.bool false)] 4 1 false true)] 17)) (by kernel_rfl) ?_
  rcases Bool.eq_false_or_eq_true (ltI kd 3) with hb | hb <;> rw [hb]
  · refine AO.run1 [4, 5, 6, 7, 8] [] rfl (tm' := (tmL 139 [(0, .nilp), (1, (.agg [(.int .i8 (kd)), (.val (vk)), (.val (s1)), (.val (s2)), (.val (s3)), (.val (vm)), (.val (s4)), (.val (s5)), (.bool (dn))])), (2, (.ptr (Pos.ofSucc 13) 0)), (3, (.ptr (Pos.ofSucc 14) 0)), (4, (.ptr (Pos.ofSucc 15) 0)), (5, (.bool false)), (6, (.ptr (Pos.ofSucc 16) 0)), (17, (.ptr (Pos.ofSucc 14) 0)), (18, (.int .i8 (kd))), (19, (.bool true)), (20, (.bool true)), (21, (.tup [])), (22, (.tup [])), (23, (.tup [])), (24, (.tup [])), (25, (.bool true))])) (σ' := (stS 13 [] [(13, .row [.nilp] 51 1 false true), (14, .row [(.int .i8 (kd)), (.val (vk)), (.val (s1)), (.val (s2)), (.val (s3)), (.val (vm)), (.val (s4)), (.val (s5)), (.bool (dn))] 26 1 false true), (15, .row [(.int .i8 (.ofNat 0)), (.int .i64 (.ofNat 0)), (.str []), .nils] 35 1 false true), (16, .row [(.bool false)] 4 1 false true)] 17)) (by kernel_rfl) ?_
    refine AO.nil (nrmQ_mk ?_)
    refine keepQ_nrm (tm' := (tmL 139 [(0, .nilp), (1, (.agg [(.int .i8 (kd)), (.val (vk)), (.val (s1)), (.val (s2)), (.val (s3)), (.val (vm)), (.val (s4)), (.val (s5)), (.bool (dn))])), (2, (.ptr (Pos.ofSucc 13) 0)), (3, (.ptr (Pos.ofSucc 14) 0)), (4, (.ptr (Pos.ofSucc 15) 0)), (5, (.bool false)), (6, (.ptr (Pos.ofSucc 16) 0)), (25, (.bool true))])) (by kernel_rfl) ?_
    refine thenQ_nrm ?_
    refine AW.cond (b := true) (by kernel_rfl) ?_
    refine AW.seq1 ?_
    refine AW.run1 [0, 1, 2, 3, 4, 5, 6, 7, 8, 10, 11, 12, 14, 16, 25, 45, 46, 49, 55, 61, 67, 72, 77, 100, 105, 120, 121, 122, 123, 135] (tm' := (tmL 139 [(0, .nilp), (1, (.agg [(.int .i8 (kd)), (.val (vk)), (.val (s1)), (.val (s2)), (.val (s3)), (.val (vm)), (.val (s4)), (.val (s5)), (.bool (dn))])), (2, (.ptr (Pos.ofSucc 13) 0)), (3, (.ptr (Pos.ofSucc 14) 0)), (4, (.ptr (Pos.ofSucc 15) 0)), (5, (.bool false)), (6, (.ptr (Pos.ofSucc 16) 0)), (25, (.bool true))])) (σ' := (stS 13 [] [(13, .row [.nilp] 51 1 false true), (14, .row [(.int .i8 (kd)), (.val (vk)), (.val (s1)), (.val (s2)), (.val (s3)), (.val (vm)), (.val (s4)), (.val (s5)), (.bool (dn))] 26 1 false true), (15, .row [(.int .i8 (.ofNat 0)), (.int .i64 (.ofNat 0)), (.str []), .nils] 35 1 false true), (16, .row [(.bool false)] 4 1 false true)] 17)) (by kernel_rfl) ?_
    refine thenQ_nrm ?_
    refine AW.ret ?_
    refine thenQ_ret ?_
    refine ⟨(.tup [(.agg [(.int .i8 (.ofNat 0)), (.int .i64 (.ofNat 0)), (.str []), .nils]), (.bool false), (.bool false)]), by kernel_rfl, ?_⟩
    exact ⟨rfl, rfl⟩
  · refine AO.run1 [4, 5] [6, 7, 8] rfl (tm' := (tmL 139 [(0, .nilp), (1, (.agg [(.int .i8 (kd)), (.val (vk)), (.val (s1)), (.val (s2)), (.val (s3)), (.val (vm)), (.val (s4)), (.val (s5)), (.bool (dn))])), (2, (.ptr (Pos.ofSucc 13) 0)), (3, (.ptr (Pos.ofSucc 14) 0)), (4, (.ptr (Pos.ofSucc 15) 0)), (5, (.bool false)), (6, (.ptr (Pos.ofSucc 16) 0)), (17, (.ptr (Pos.ofSucc 14) 0)), (18, (.int .i8 (kd))), (19, (.bool false)), (20, (.bool false)), (21, .nilp), (22, (.agg [(.int .i8 (kd)), (.val (vk)), (.val (s1)), (.val (s2)), (.val (s3)), (.val (vm)), (.val (s4)), (.val (s5)), (.bool (dn))]))])) (σ' := (stS 13 [] [(13, .row [.nilp] 51 1 false true), (14, .row [(.int .i8 (kd)), (.val (vk)), (.val (s1)), (.val (s2)), (.val (s3)), (.val (vm)), (.val (s4)), (.val (s5)), (.bool (dn))] 26 1 false true), (15, .row [(.int .i8 (.ofNat 0)), (.int .i64 (.ofNat 0)), (.str []), .nils] 35 1 false true), (16, .row [(.bool false)] 4 1 false true)] 17)) (by kernel_rfl) ?_
    refine AO.call (f := 20) (args := [.nilp, (.agg [(.int .i8 (kd)), (.val (vk)), (.val (s1)), (.val (s2)), (.val (s3)), (.val (vm)), (.val (s4)), (.val (s5)), (.bool (dn))])]) rfl (by kernel_rfl) rfl (by kernel_rfl) ?_
    refine AC.eval hm X00_ok X00_nice 300 (v := (.bool false)) (σ' := (stS 13 [] [(13, .row [.nilp] 51 1 false true), (14, .row [(.int .i8 (kd)), (.val (vk)), (.val (s1)), (.val (s2)), (.val (s3)), (.val (vm)), (.val (s4)), (.val (s5)), (.bool (dn))] 26 1 false true), (15, .row [(.int .i8 (.ofNat 0)), (.int .i64 (.ofNat 0)), (.str []), .nils] 35 1 false true), (16, .row [(.bool false)] 4 1 false true), (17, .row [.nilp] 51 1 false true), (18, .row [(.int .i8 (kd)), (.val (vk)), (.val (s1)), (.val (s2)), (.val (s3)), (.val (vm)), (.val (s4)), (.val (s5)), (.bool (dn))] 26 1 false true), (19, .row [(.bool false)] 4 1 false true)] 20)) (by kernel_rfl) ?_
    refine AO.run1 [7, 8] [] rfl (tm' := (tmL 139 [(0, .nilp), (1, (.agg [(.int .i8 (kd)), (.val (vk)), (.val (s1)), (.val (s2)), (.val (s3)), (.val (vm)), (.val (s4)), (.val (s5)), (.bool (dn))])), (2, (.ptr (Pos.ofSucc 13) 0)), (3, (.ptr (Pos.ofSucc 14) 0)), (4, (.ptr (Pos.ofSucc 15) 0)), (5, (.bool false)), (6, (.ptr (Pos.ofSucc 16) 0)), (17, (.ptr (Pos.ofSucc 14) 0)), (18, (.int .i8 (kd))), (19, (.bool false)), (20, (.bool false)), (21, .nilp), (22, (.agg [(.int .i8 (kd)), (.val (vk)), (.val (s1)), (.val (s2)), (.val (s3)), (.val (vm)), (.val (s4)), (.val (s5)), (.bool (dn))])), (23, (.bool false)), (24, (.bool true)), (25, (.bool true))])) (σ' := (stS 13 [] [(13, .row [.nilp] 51 1 false true), (14, .row [(.int .i8 (kd)), (.val (vk)), (.val (s1)), (.val (s2)), (.val (s3)), (.val (vm)), (.val (s4)), (.val (s5)), (.bool (dn))] 26 1 false true), (15, .row [(.int .i8 (.ofNat 0)), (.int .i64 (.ofNat 0)), (.str []), .nils] 35 1 false true), (16, .row [(.bool false)] 4 1 false true), (17, .row [.nilp] 51 1 false true), (18, .row [(.int .i8 (kd)), (.val (vk)), (.val (s1)), (.val (s2)), (.val (s3)), (.val (vm)), (.val (s4)), (.val (s5)), (.bool (dn))] 26 1 false true), (19, .row [(.bool false)] 4 1 false true)] 20)) (by kernel_rfl) ?_
    refine AO.nil (nrmQ_mk ?_)
    refine keepQ_nrm (tm' := (tmL 139 [(0, .nilp), (1, (.agg [(.int .i8 (kd)), (.val (vk)), (.val (s1)), (.val (s2)), (.val (s3)), (.val (vm)), (.val (s4)), (.val (s5)), (.bool (dn))])), (2, (.ptr (Pos.ofSucc 13) 0)), (3, (.ptr (Pos.ofSucc 14) 0)), (4, (.ptr (Pos.ofSucc 15) 0)), (5, (.bool false)), (6, (.ptr (Pos.ofSucc 16) 0)), (25, (.bool true))])) (by kernel_rfl) ?_
    refine thenQ_nrm ?_
    refine AW.cond (b := true) (by kernel_rfl) ?_
    refine AW.seq1 ?_
    refine AW.run1 [0, 1, 2, 3, 4, 5, 6, 7, 8, 10, 11, 12, 14, 16, 25, 45, 46, 49, 55, 61, 67, 72, 77, 100, 105, 120, 121, 122, 123, 135] (tm' := (tmL 139 [(0, .nilp), (1, (.agg [(.int .i8 (kd)), (.val (vk)), (.val (s1)), (.val (s2)), (.val (s3)), (.val (vm)), (.val (s4)), (.val (s5)), (.bool (dn))])), (2, (.ptr (Pos.ofSucc 13) 0)), (3, (.ptr (Pos.ofSucc 14) 0)), (4, (.ptr (Pos.ofSucc 15) 0)), (5, (.bool false)), (6, (.ptr (Pos.ofSucc 16) 0)), (25, (.bool true))])) (σ' := (stS 13 [] [(13, .row [.nilp] 51 1 false true), (14, .row [(.int .i8 (kd)), (.val (vk)), (.val (s1)), (.val (s2)), (.val (s3)), (.val (vm)), (.val (s4)), (.val (s5)), (.bool (dn))] 26 1 false true), (15, .row [(.int .i8 (.ofNat 0)), (.int .i64 (.ofNat 0)), (.str []), .nils] 35 1 false true), (16, .row [(.bool false)] 4 1 false true), (17, .row [.nilp] 51 1 false true), (18, .row [(.int .i8 (kd)), (.val (vk)), (.val (s1)), (.val (s2)), (.val (s3)), (.val (vm)), (.val (s4)), (.val (s5)), (.bool (dn))] 26 1 false true), (19, .row [(.bool false)] 4 1 false true)] 20)) (by kernel_rfl) ?_
    refine thenQ_nrm ?_
    refine AW.ret ?_
    refine thenQ_ret ?_
    refine ⟨(.tup [(.agg [(.int .i8 (.ofNat 0)), (.int .i64 (.ofNat 0)), (.str []), .nils]), (.bool false), (.bool false)]), by kernel_rfl, ?_⟩
    exact ⟨rfl, rfl⟩

theorem costNil_ac (B : Bd) (kd : Int) (vk s1 s2 s3 vm s4 s5 : Value) (dn : Bool) (can : Int) (index nocan noguess : Bool) (gb : Option Addr) (gl gc : Nat) (all : Nat)
    (hW : WorksOk B) (hB : BeyondOk B (.agg [.int .i8 kd, .val vk, .val s1, .val s2, .val s3, .val vm, .val s4, .val s5, .bool dn])) :
    AC Tryz.prog 13 B 3 [.agg [.int .i8 kd, .val vk, .val s1, .val s2, .val s3, .val vm, .val s4, .val s5, .bool dn], .agg [.int .u64 can, .bool index, .val (.slice gb gl gc), .flt all, .bool nocan, .bool noguess]] (stS 13 [] [] 13) fun B' v _ => B' = B ∧ v = .bool true := by
  refine AC.body 14 (fn := Tryz.f3) (c := codeOf Tryz.f3) (by kernel_rfl) (by decide) (stS_lt (by simp) (by simp) (by simp)) ?_
  refine AW.seq1 ?_
  refine AW.run1 [0, 1, 2, 3, 4, 5, 6, 7, 8, 9, 11] (tm' := (tmL 65 [(0, (.agg [(.int .i8 (kd)), (.val (vk)), (.val (s1)), (.val (s2)), (.val (s3)), (.val (vm)), (.val (s4)), (.val (s5)), (.bool (dn))])), (1, (.agg [(.int .u64 (can)), (.bool (index)), (.val (Value.slice gb gl gc)), (.flt (all)), (.bool (nocan)), (.bool (noguess))])), (2, (.ptr (Pos.ofSucc 13) 0)), (3, (.ptr (Pos.ofSucc 14) 0)), (4, (.bool false))])) (σ' := (stS 13 [] [(13, .row [(.int .i8 (kd)), (.val (vk)), (.val (s1)), (.val (s2)), (.val (s3)), (.val (vm)), (.val (s4)), (.val (s5)), (.bool (dn))] 26 1 false true), (14, .row [(.int .u64 (can)), (.bool (index)), (.val (Value.slice gb gl gc)), (.flt (all)), (.bool (nocan)), (.bool (noguess))] 31 1 false true)] 15)) (by kernel_rfl) ?_
  refine thenQ_nrm ?_
  refine AW.seq1 ?_
  refine AW.seq1 ?_
  refine AW.keepOut [0, 1, 2, 3, 4, 5, 6, 7, 8, 9, 11] ?_
  refine AW.regionL [0, 1] (by kernel_rfl) ?_
  refine AO.run1 [0] [1] rfl (tm' := (tmL 65 [(0, (.agg [(.int .i8 (kd)), (.val (vk)), (.val (s1)), (.val (s2)), (.val (s3)), (.val (vm)), (.val (s4)), (.val (s5)), (.bool (dn))])), (1, (.agg [(.int .u64 (can)), (.bool (index)), (.val (Value.slice gb gl gc)), (.flt (all)), (.bool (nocan)), (.bool (noguess))])), (2, (.ptr (Pos.ofSucc 13) 0)), (3, (.ptr (Pos.ofSucc 14) 0)), (4, (.bool false)), (10, (.agg [(.int .i8 (kd)), (.val (vk)), (.val (s1)), (.val (s2)), (.val (s3)), (.val (vm)), (.val (s4)), (.val (s5)), (.bool (dn))]))])) (σ' := (stS 13 [] [(13, .row [(.int .i8 (kd)), (.val (vk)), (.val (s1)), (.val (s2)), (.val (s3)), (.val (vm)), (.val (s4)), (.val (s5)), (.bool (dn))] 26 1 false true), (14, .row [(.int .u64 (can)), (.bool (index)), (.val (Value.slice gb gl gc)), (.flt (all)), (.bool (nocan)), (.bool (noguess))] 31 1 false true)] 15)) (by kernel_rfl) ?_
  refine AO.call (f := 4) (args := [(.agg [(.int .i8 (kd)), (.val (vk)), (.val (s1)), (.val (s2)), (.val (s3)), (.val (vm)), (.val (s4)), (.val (s5)), (.bool (dn))])]) rfl (by kernel_rfl) rfl (by kernel_rfl) ?_
  refine (hB _).mono ?_
  rintro B2 v σ2 ⟨rfl, ⟨b, rfl⟩, rfl⟩
  refine AO.nil (nrmQ_mk ?_)
  refine keepQ_nrm (tm' := (tmL 65 [(0, (.agg [(.int .i8 (kd)), (.val (vk)), (.val (s1)), (.val (s2)), (.val (s3)), (.val (vm)), (.val (s4)), (.val (s5)), (.bool (dn))])), (1, (.agg [(.int .u64 (can)), (.bool (index)), (.val (Value.slice gb gl gc)), (.flt (all)), (.bool (nocan)), (.bool (noguess))])), (2, (.ptr (Pos.ofSucc 13) 0)), (3, (.ptr (Pos.ofSucc 14) 0)), (4, (.bool false)), (11, (.bool (b)))])) (by kernel_rfl) ?_
  refine thenQ_nrm ?_
  cases b with
  | true =>
    refine AW.cond (b := true) (by kernel_rfl) ?_
    refine AW.seq1 ?_
    refine AW.keepOut [0, 1, 2, 3, 4, 5, 6, 7, 8, 9, 11] ?_
    refine AW.regionL [0, 1] (by kernel_rfl) ?_
    refine AO.call (f := 5) (args := []) rfl (by kernel_rfl) rfl (by kernel_rfl) ?_
    refine (hW _).mono ?_
    rintro B3 v σ3 ⟨rfl, rfl, rfl⟩
    refine AO.run1 [1] [] rfl (tm' := (tmL 65 [(0, (.agg [(.int .i8 (kd)), (.val (vk)), (.val (s1)), (.val (s2)), (.val (s3)), (.val (vm)), (.val (s4)), (.val (s5)), (.bool (dn))])), (1, (.agg [(.int .u64 (can)), (.bool (index)), (.val (Value.slice gb gl gc)), (.flt (all)), (.bool (nocan)), (.bool (noguess))])), (2, (.ptr (Pos.ofSucc 13) 0)), (3, (.ptr (Pos.ofSucc 14) 0)), (4, (.bool true)), (11, (.bool true)), (12, (.bool true))])) (σ' := (stS 13 [] [(13, .row [(.int .i8 (kd)), (.val (vk)), (.val (s1)), (.val (s2)), (.val (s3)), (.val (vm)), (.val (s4)), (.val (s5)), (.bool (dn))] 26 1 false true), (14, .row [(.int .u64 (can)), (.bool (index)), (.val (Value.slice gb gl gc)), (.flt (all)), (.bool (nocan)), (.bool (noguess))] 31 1 false true)] 15)) (by kernel_rfl) ?_
    refine AO.nil (nrmQ_mk ?_)
    refine keepQ_nrm (tm' := (tmL 65 [(0, (.agg [(.int .i8 (kd)), (.val (vk)), (.val (s1)), (.val (s2)), (.val (s3)), (.val (vm)), (.val (s4)), (.val (s5)), (.bool (dn))])), (1, (.agg [(.int .u64 (can)), (.bool (index)), (.val (Value.slice gb gl gc)), (.flt (all)), (.bool (nocan)), (.bool (noguess))])), (2, (.ptr (Pos.ofSucc 13) 0)), (3, (.ptr (Pos.ofSucc 14) 0)), (4, (.bool true)), (11, (.bool true))])) (by kernel_rfl) ?_
    refine thenQ_nrm ?_
    refine AW.ret ?_
    refine thenQ_ret ?_
    refine ⟨(.bool true), by kernel_rfl, ?_⟩
    exact ⟨rfl, rfl⟩
  | false =>
    refine AW.cond (b := false) (by kernel_rfl) ?_
    refine AW.skip ?_
    refine thenQ_nrm ?_
    refine AW.seq1 ?_
    refine AW.keepOut [0, 1, 2, 3, 4, 5, 6, 7, 8, 9, 11] ?_
    refine AW.regionL [0, 1, 2, 3, 4, 5, 6, 7, 8, 9] (by kernel_rfl) ?_
    refine AO.run1 [0] [1, 2, 3, 4, 5, 6, 7, 8, 9] rfl (tm' := (tmL 65 [(0, (.agg [(.int .i8 (kd)), (.val (vk)), (.val (s1)), (.val (s2)), (.val (s3)), (.val (vm)), (.val (s4)), (.val (s5)), (.bool (dn))])), (1, (.agg [(.int .u64 (can)), (.bool (index)), (.val (Value.slice gb gl gc)), (.flt (all)), (.bool (nocan)), (.bool (noguess))])), (2, (.ptr (Pos.ofSucc 13) 0)), (3, (.ptr (Pos.ofSucc 14) 0)), (4, (.bool false)), (11, (.bool false)), (14, (.agg [(.int .i8 (kd)), (.val (vk)), (.val (s1)), (.val (s2)), (.val (s3)), (.val (vm)), (.val (s4)), (.val (s5)), (.bool (dn))]))])) (σ' := (stS 13 [] [(13, .row [(.int .i8 (kd)), (.val (vk)), (.val (s1)), (.val (s2)), (.val (s3)), (.val (vm)), (.val (s4)), (.val (s5)), (.bool (dn))] 26 1 false true), (14, .row [(.int .u64 (can)), (.bool (index)), (.val (Value.slice gb gl gc)), (.flt (all)), (.bool (nocan)), (.bool (noguess))] 31 1 false true)] 15)) (by kernel_rfl) ?_
    refine AO.call (f := 6) (args := [.nilp, (.agg [(.int .i8 (kd)), (.val (vk)), (.val (s1)), (.val (s2)), (.val (s3)), (.val (vm)), (.val (s4)), (.val (s5)), (.bool (dn))])]) rfl (by kernel_rfl) rfl (by kernel_rfl) ?_
    refine AC.pure (by simp [AV.free]) (fun B => asks_nil B kd vk s1 s2 s3 vm s4 s5 dn) (by rintro v rfl; rfl) (fun v hv => ?_)
    subst hv
    cases nocan <;> cases noguess
    · refine AO.run1 [2, 3, 4, 5, 6, 7, 8, 9] [] rfl (tm' := (tmL 65 [(0, (.agg [(.int .i8 (kd)), (.val (vk)), (.val (s1)), (.val (s2)), (.val (s3)), (.val (vm)), (.val (s4)), (.val (s5)), (.bool (dn))])), (1, (.agg [(.int .u64 (can)), (.bool (index)), (.val (Value.slice gb gl gc)), (.flt (all)), (.bool false), (.bool false)])), (2, (.ptr (Pos.ofSucc 13) 0)), (3, (.ptr (Pos.ofSucc 14) 0)), (4, (.bool false)), (5, (.ptr (Pos.ofSucc 15) 0)), (6, (.bool false)), (7, (.bool false)), (11, (.bool false)), (13, (.tup [(.agg [(.int .i8 (.ofNat 0)), (.int .i64 (.ofNat 0)), (.str []), .nils]), (.bool false), (.bool false)])), (14, (.agg [(.int .i8 (kd)), (.val (vk)), (.val (s1)), (.val (s2)), (.val (s3)), (.val (vm)), (.val (s4)), (.val (s5)), (.bool (dn))])), (15, (.tup [(.agg [(.int .i8 (.ofNat 0)), (.int .i64 (.ofNat 0)), (.str []), .nils]), (.bool false), (.bool false)])), (16, (.agg [(.int .i8 (.ofNat 0)), (.int .i64 (.ofNat 0)), (.str []), .nils])), (17, (.bool false)), (18, (.bool false))])) (σ' := (stS 13 [] [(13, .row [(.int .i8 (kd)), (.val (vk)), (.val (s1)), (.val (s2)), (.val (s3)), (.val (vm)), (.val (s4)), (.val (s5)), (.bool (dn))] 26 1 false true), (14, .row [(.int .u64 (can)), (.bool (index)), (.val (Value.slice gb gl gc)), (.flt (all)), (.bool false), (.bool false)] 31 1 false true), (15, .row [(.int .i8 (.ofNat 0)), (.int .i64 (.ofNat 0)), (.str []), .nils] 35 1 false true)] 16)) (by kernel_rfl) ?_
      refine AO.nil (nrmQ_mk ?_)
      refine keepQ_nrm (tm' := (tmL 65 [(0, (.agg [(.int .i8 (kd)), (.val (vk)), (.val (s1)), (.val (s2)), (.val (s3)), (.val (vm)), (.val (s4)), (.val (s5)), (.bool (dn))])), (1, (.agg [(.int .u64 (can)), (.bool (index)), (.val (Value.slice gb gl gc)), (.flt (all)), (.bool false), (.bool false)])), (2, (.ptr (Pos.ofSucc 13) 0)), (3, (.ptr (Pos.ofSucc 14) 0)), (4, (.bool false)), (5, (.ptr (Pos.ofSucc 15) 0)), (6, (.bool false)), (7, (.bool false)), (11, (.bool false))])) (by kernel_rfl) ?_
      refine thenQ_nrm ?_
      refine AW.seq1 ?_
      refine AW.run1 [0, 1, 2, 3, 4, 5, 6, 7, 8, 9, 11] (tm' := (tmL 65 [(0, (.agg [(.int .i8 (kd)), (.val (vk)), (.val (s1)), (.val (s2)), (.val (s3)), (.val (vm)), (.val (s4)), (.val (s5)), (.bool (dn))])), (1, (.agg [(.int .u64 (can)), (.bool (index)), (.val (Value.slice gb gl gc)), (.flt (all)), (.bool false), (.bool false)])), (2, (.ptr (Pos.ofSucc 13) 0)), (3, (.ptr (Pos.ofSucc 14) 0)), (4, (.bool false)), (5, (.ptr (Pos.ofSucc 15) 0)), (6, (.bool false)), (7, (.bool false)), (11, (.bool false))])) (σ' := (stS 13 [] [(13, .row [(.int .i8 (kd)), (.val (vk)), (.val (s1)), (.val (s2)), (.val (s3)), (.val (vm)), (.val (s4)), (.val (s5)), (.bool (dn))] 26 1 false true), (14, .row [(.int .u64 (can)), (.bool false), (.val (Value.slice gb gl gc)), (.flt (all)), (.bool false), (.bool false)] 31 1 false true), (15, .row [(.int .i8 (.ofNat 0)), (.int .i64 (.ofNat 0)), (.str []), .nils] 35 1 false true)] 16)) (by kernel_rfl) ?_
      refine thenQ_nrm ?_
      refine AW.seq1 ?_
      refine AW.drawN hm 300 [0, 1, 2, 3, 4, 5, 6, 7, 8, 9, 11] (tm' := (tmL 65 [(0, (.agg [(.int .i8 (kd)), (.val (vk)), (.val (s1)), (.val (s2)), (.val (s3)), (.val (vm)), (.val (s4)), (.val (s5)), (.bool (dn))])), (1, (.agg [(.int .u64 (can)), (.bool (index)), (.val (Value.slice gb gl gc)), (.flt (all)), (.bool false), (.bool false)])), (2, (.ptr (Pos.ofSucc 13) 0)), (3, (.ptr (Pos.ofSucc 14) 0)), (4, (.bool false)), (5, (.ptr (Pos.ofSucc 15) 0)), (6, (.bool false)), (7, (.bool false)), (8, (.ptr (Pos.ofSucc 27) 0)), (9, (.int .i64 (.ofNat 1))), (11, (.bool false))])) (σ' := (stS 13 [] [(13, .row [(.int .i8 (kd)), (.val (vk)), (.val (s1)), (.val (s2)), (.val (s3)), (.val (vm)), (.val (s4)), (.val (s5)), (.bool (dn))] 26 1 false true), (14, .row [(.int .u64 (can)), (.bool false), (.val (Value.slice gb gl gc)), (.flt (all)), (.bool false), (.bool false)] 31 1 false true), (15, .row [(.int .i8 (.ofNat 0)), (.int .i64 (.ofNat 0)), (.str []), .nils] 35 1 false true), (27, .row [(.int .i8 (.ofNat 0)), (.int .i8 (.ofNat 0)), (.int .i64 (.ofNat 0)), (.str []), .nils, (.int .i8 (.ofNat 0)), .nils, (.str []), (.str []), (.str []), .nils, (.str []), (.str []), (.bool false), .nils] 40 1 false true), (30, .row [(.int .u64 (can)), (.bool false), (.val (Value.slice gb gl gc)), (.flt (all)), (.bool false), (.bool false)] 31 1 false true), (31, .row [.nilp] 86 1 false true), (32, .row [(.int .u64 (can)), (.bool false), (.val (Value.slice gb gl gc)), (.flt (all)), (.bool false), (.bool false)] 31 1 false true), (33, .row [(.int .i8 (kd)), (.val (vk)), (.val (s1)), (.val (s2)), (.val (s3)), (.val (vm)), (.val (s4)), (.val (s5)), (.bool (dn))] 26 1 false true), (34, .row [(.int .i8 (.ofNat 0)), (.int .i8 (.ofNat 0)), (.int .i64 (.ofNat 0)), (.str []), .nils, (.int .i8 (.ofNat 0)), .nils, (.str []), (.str []), (.str []), .nils, (.str []), (.str []), (.bool false), .nils] 40 1 false true)] 35)) (by kernel_rfl) ?_
      refine thenQ_nrm ?_
      refine AW.seq1 ?_
      refine AW.keepOut [0, 1, 2, 3, 4, 5, 6, 7, 8, 9, 11] ?_
      refine AW.regionL [0, 1, 2, 3, 4, 5, 6, 7, 8, 9, 10, 11, 12, 13, 14, 15, 16, 17, 18, 19, 20, 21, 22, 23, 24, 25, 26, 27, 28, 29, 30, 31, 32, 33, 34] (by kernel_rfl) ?_
      refine AO.run1 [0, 1, 2, 3, 4, 5, 6, 7, 8, 9, 10, 11, 12, 13, 14, 15, 16, 17, 18, 19, 20, 21, 22, 23, 24, 25, 26, 27, 28, 29, 30, 31] [32, 33, 34] rfl (tm' := (tmL 65 [(0, (.agg [(.int .i8 (kd)), (.val (vk)), (.val (s1)), (.val (s2)), (.val (s3)), (.val (vm)), (.val (s4)), (.val (s5)), (.bool (dn))])), (1, (.agg [(.int .u64 (can)), (.bool (index)), (.val (Value.slice gb gl gc)), (.flt (all)), (.bool false), (.bool false)])), (2, (.ptr (Pos.ofSucc 13) 0)), (3, (.ptr (Pos.ofSucc 14) 0)), (4, (.bool false)), (5, (.ptr (Pos.ofSucc 15) 0)), (6, (.bool false)), (7, (.bool false)), (8, (.ptr (Pos.ofSucc 27) 0)), (9, (.int .i64 (.ofNat 1))), (11, (.bool false)), (31, (.ptr (Pos.ofSucc 15) 0)), (32, (.int .i8 (.ofNat 0))), (33, (.bool true)), (34, (.bool true)), (35, (.ptr (Pos.ofSucc 15) 2)), (36, (.str [])), (37, (.bool true)), (38, (.bool true)), (39, (.bool true)), (40, (.bool false)), (41, (.bool true)), (42, (.bool true)), (43, (.bool true)), (44, (.bool false)), (45, (.bool true)), (46, (.bool true)), (47, (.bool true)), (48, (.ptr (Pos.ofSucc 27) 0)), (49, (.int .i8 (.ofNat 0))), (50, (.bool true)), (51, (.bool true)), (52, (.bool true)), (53, (.ptr (Pos.ofSucc 27) 14)), (54, .nils), (55, (.int .i64 (.ofNat 0))), (56, (.bool true)), (57, (.bool true)), (58, (.bool true)), (59, (.int .i64 (.ofNat 1))), (60, (.bool true)), (61, (.bool true)), (62, (.bool true))])) (σ' := (stS 13 [] [(13, .row [(.int .i8 (kd)), (.val (vk)), (.val (s1)), (.val (s2)), (.val (s3)), (.val (vm)), (.val (s4)), (.val (s5)), (.bool (dn))] 26 1 false true), (14, .row [(.int .u64 (can)), (.bool false), (.val (Value.slice gb gl gc)), (.flt (all)), (.bool false), (.bool false)] 31 1 false true), (15, .row [(.int .i8 (.ofNat 0)), (.int .i64 (.ofNat 0)), (.str []), .nils] 35 1 false true), (27, .row [(.int .i8 (.ofNat 0)), (.int .i8 (.ofNat 0)), (.int .i64 (.ofNat 0)), (.str []), .nils, (.int .i8 (.ofNat 0)), .nils, (.str []), (.str []), (.str []), .nils, (.str []), (.str []), (.bool false), .nils] 40 1 false true), (30, .row [(.int .u64 (can)), (.bool false), (.val (Value.slice gb gl gc)), (.flt (all)), (.bool false), (.bool false)] 31 1 false true), (31, .row [.nilp] 86 1 false true), (32, .row [(.int .u64 (can)), (.bool false), (.val (Value.slice gb gl gc)), (.flt (all)), (.bool false), (.bool false)] 31 1 false true), (33, .row [(.int .i8 (kd)), (.val (vk)), (.val (s1)), (.val (s2)), (.val (s3)), (.val (vm)), (.val (s4)), (.val (s5)), (.bool (dn))] 26 1 false true), (34, .row [(.int .i8 (.ofNat 0)), (.int .i8 (.ofNat 0)), (.int .i64 (.ofNat 0)), (.str []), .nils, (.int .i8 (.ofNat 0)), .nils, (.str []), (.str []), (.str []), .nils, (.str []), (.str []), (.bool false), .nils] 40 1 false true)] 35)) (by kernel_rfl) ?_
      refine AO.call (f := 5) (args := []) rfl (by kernel_rfl) rfl (by kernel_rfl) ?_
      refine (hW _).mono ?_
      rintro B3 v σ3 ⟨rfl, rfl, rfl⟩
      refine AO.run1 [33, 34] [] rfl (tm' := (tmL 65 [(0, (.agg [(.int .i8 (kd)), (.val (vk)), (.val (s1)), (.val (s2)), (.val (s3)), (.val (vm)), (.val (s4)), (.val (s5)), (.bool (dn))])), (1, (.agg [(.int .u64 (can)), (.bool (index)), (.val (Value.slice gb gl gc)), (.flt (all)), (.bool false), (.bool false)])), (2, (.ptr (Pos.ofSucc 13) 0)), (3, (.ptr (Pos.ofSucc 14) 0)), (4, (.bool true)), (5, (.ptr (Pos.ofSucc 15) 0)), (6, (.bool false)), (7, (.bool false)), (8, (.ptr (Pos.ofSucc 27) 0)), (9, (.int .i64 (.ofNat 1))), (11, (.bool false)), (31, (.ptr (Pos.ofSucc 15) 0)), (32, (.int .i8 (.ofNat 0))), (33, (.bool true)), (34, (.bool true)), (35, (.ptr (Pos.ofSucc 15) 2)), (36, (.str [])), (37, (.bool true)), (38, (.bool true)), (39, (.bool true)), (40, (.bool false)), (41, (.bool true)), (42, (.bool true)), (43, (.bool true)), (44, (.bool false)), (45, (.bool true)), (46, (.bool true)), (47, (.bool true)), (48, (.ptr (Pos.ofSucc 27) 0)), (49, (.int .i8 (.ofNat 0))), (50, (.bool true)), (51, (.bool true)), (52, (.bool true)), (53, (.ptr (Pos.ofSucc 27) 14)), (54, .nils), (55, (.int .i64 (.ofNat 0))), (56, (.bool true)), (57, (.bool true)), (58, (.bool true)), (59, (.int .i64 (.ofNat 1))), (60, (.bool true)), (61, (.bool true)), (62, (.bool true)), (63, (.bool true)), (64, (.bool true))])) (σ' := (stS 13 [] [(13, .row [(.int .i8 (kd)), (.val (vk)), (.val (s1)), (.val (s2)), (.val (s3)), (.val (vm)), (.val (s4)), (.val (s5)), (.bool (dn))] 26 1 false true), (14, .row [(.int .u64 (can)), (.bool false), (.val (Value.slice gb gl gc)), (.flt (all)), (.bool false), (.bool false)] 31 1 false true), (15, .row [(.int .i8 (.ofNat 0)), (.int .i64 (.ofNat 0)), (.str []), .nils] 35 1 false true), (27, .row [(.int .i8 (.ofNat 0)), (.int .i8 (.ofNat 0)), (.int .i64 (.ofNat 0)), (.str []), .nils, (.int .i8 (.ofNat 0)), .nils, (.str []), (.str []), (.str []), .nils, (.str []), (.str []), (.bool false), .nils] 40 1 false true), (30, .row [(.int .u64 (can)), (.bool false), (.val (Value.slice gb gl gc)), (.flt (all)), (.bool false), (.bool false)] 31 1 false true), (31, .row [.nilp] 86 1 false true), (32, .row [(.int .u64 (can)), (.bool false), (.val (Value.slice gb gl gc)), (.flt (all)), (.bool false), (.bool false)] 31 1 false true), (33, .row [(.int .i8 (kd)), (.val (vk)), (.val (s1)), (.val (s2)), (.val (s3)), (.val (vm)), (.val (s4)), (.val (s5)), (.bool (dn))] 26 1 false true), (34, .row [(.int .i8 (.ofNat 0)), (.int .i8 (.ofNat 0)), (.int .i64 (.ofNat 0)), (.str []), .nils, (.int .i8 (.ofNat 0)), .nils, (.str []), (.str []), (.str []), .nils, (.str []), (.str []), (.bool false), .nils] 40 1 false true)] 35)) (by kernel_rfl) ?_
      refine AO.nil (nrmQ_mk ?_)
      refine keepQ_nrm (tm' := (tmL 65 [(0, (.agg [(.int .i8 (kd)), (.val (vk)), (.val (s1)), (.val (s2)), (.val (s3)), (.val (vm)), (.val (s4)), (.val (s5)), (.bool (dn))])), (1, (.agg [(.int .u64 (can)), (.bool (index)), (.val (Value.slice gb gl gc)), (.flt (all)), (.bool false), (.bool false)])), (2, (.ptr (Pos.ofSucc 13) 0)), (3, (.ptr (Pos.ofSucc 14) 0)), (4, (.bool true)), (5, (.ptr (Pos.ofSucc 15) 0)), (6, (.bool false)), (7, (.bool false)), (8, (.ptr (Pos.ofSucc 27) 0)), (9, (.int .i64 (.ofNat 1))), (11, (.bool false))])) (by kernel_rfl) ?_
      refine thenQ_nrm ?_
      refine AW.ret ?_
      refine ⟨(.bool true), by kernel_rfl, ?_⟩
      exact ⟨rfl, rfl⟩
    · refine AO.run1 [2, 3, 4, 5, 6, 7, 8, 9] [] rfl (tm' := (tmL 65 [(0, (.agg [(.int .i8 (kd)), (.val (vk)), (.val (s1)), (.val (s2)), (.val (s3)), (.val (vm)), (.val (s4)), (.val (s5)), (.bool (dn))])), (1, (.agg [(.int .u64 (can)), (.bool (index)), (.val (Value.slice gb gl gc)), (.flt (all)), (.bool false), (.bool true)])), (2, (.ptr (Pos.ofSucc 13) 0)), (3, (.ptr (Pos.ofSucc 14) 0)), (4, (.bool false)), (5, (.ptr (Pos.ofSucc 15) 0)), (6, (.bool false)), (7, (.bool false)), (11, (.bool false)), (13, (.tup [(.agg [(.int .i8 (.ofNat 0)), (.int .i64 (.ofNat 0)), (.str []), .nils]), (.bool false), (.bool false)])), (14, (.agg [(.int .i8 (kd)), (.val (vk)), (.val (s1)), (.val (s2)), (.val (s3)), (.val (vm)), (.val (s4)), (.val (s5)), (.bool (dn))])), (15, (.tup [(.agg [(.int .i8 (.ofNat 0)), (.int .i64 (.ofNat 0)), (.str []), .nils]), (.bool false), (.bool false)])), (16, (.agg [(.int .i8 (.ofNat 0)), (.int .i64 (.ofNat 0)), (.str []), .nils])), (17, (.bool false)), (18, (.bool false))])) (σ' := (stS 13 [] [(13, .row [(.int .i8 (kd)), (.val (vk)), (.val (s1)), (.val (s2)), (.val (s3)), (.val (vm)), (.val (s4)), (.val (s5)), (.bool (dn))] 26 1 false true), (14, .row [(.int .u64 (can)), (.bool (index)), (.val (Value.slice gb gl gc)), (.flt (all)), (.bool false), (.bool true)] 31 1 false true), (15, .row [(.int .i8 (.ofNat 0)), (.int .i64 (.ofNat 0)), (.str []), .nils] 35 1 false true)] 16)) (by kernel_rfl) ?_
      refine AO.nil (nrmQ_mk ?_)
      refine keepQ_nrm (tm' := (tmL 65 [(0, (.agg [(.int .i8 (kd)), (.val (vk)), (.val (s1)), (.val (s2)), (.val (s3)), (.val (vm)), (.val (s4)), (.val (s5)), (.bool (dn))])), (1, (.agg [(.int .u64 (can)), (.bool (index)), (.val (Value.slice gb gl gc)), (.flt (all)), (.bool false), (.bool true)])), (2, (.ptr (Pos.ofSucc 13) 0)), (3, (.ptr (Pos.ofSucc 14) 0)), (4, (.bool false)), (5, (.ptr (Pos.ofSucc 15) 0)), (6, (.bool false)), (7, (.bool false)), (11, (.bool false))])) (by kernel_rfl) ?_
      refine thenQ_nrm ?_
      refine AW.seq1 ?_
      refine AW.run1 [0, 1, 2, 3, 4, 5, 6, 7, 8, 9, 11] (tm' := (tmL 65 [(0, (.agg [(.int .i8 (kd)), (.val (vk)), (.val (s1)), (.val (s2)), (.val (s3)), (.val (vm)), (.val (s4)), (.val (s5)), (.bool (dn))])), (1, (.agg [(.int .u64 (can)), (.bool (index)), (.val (Value.slice gb gl gc)), (.flt (all)), (.bool false), (.bool true)])), (2, (.ptr (Pos.ofSucc 13) 0)), (3, (.ptr (Pos.ofSucc 14) 0)), (4, (.bool false)), (5, (.ptr (Pos.ofSucc 15) 0)), (6, (.bool false)), (7, (.bool false)), (11, (.bool false))])) (σ' := (stS 13 [] [(13, .row [(.int .i8 (kd)), (.val (vk)), (.val (s1)), (.val (s2)), (.val (s3)), (.val (vm)), (.val (s4)), (.val (s5)), (.bool (dn))] 26 1 false true), (14, .row [(.int .u64 (can)), (.bool false), (.val (Value.slice gb gl gc)), (.flt (all)), (.bool false), (.bool true)] 31 1 false true), (15, .row [(.int .i8 (.ofNat 0)), (.int .i64 (.ofNat 0)), (.str []), .nils] 35 1 false true)] 16)) (by kernel_rfl) ?_
      refine thenQ_nrm ?_
      refine AW.seq1 ?_
      refine AW.drawN hm 300 [0, 1, 2, 3, 4, 5, 6, 7, 8, 9, 11] (tm' := (tmL 65 [(0, (.agg [(.int .i8 (kd)), (.val (vk)), (.val (s1)), (.val (s2)), (.val (s3)), (.val (vm)), (.val (s4)), (.val (s5)), (.bool (dn))])), (1, (.agg [(.int .u64 (can)), (.bool (index)), (.val (Value.slice gb gl gc)), (.flt (all)), (.bool false), (.bool true)])), (2, (.ptr (Pos.ofSucc 13) 0)), (3, (.ptr (Pos.ofSucc 14) 0)), (4, (.bool false)), (5, (.ptr (Pos.ofSucc 15) 0)), (6, (.bool false)), (7, (.bool false)), (8, (.ptr (Pos.ofSucc 27) 0)), (9, (.int .i64 (.ofNat 1))), (11, (.bool false))])) (σ' := (stS 13 [] [(13, .row [(.int .i8 (kd)), (.val (vk)), (.val (s1)), (.val (s2)), (.val (s3)), (.val (vm)), (.val (s4)), (.val (s5)), (.bool (dn))] 26 1 false true), (14, .row [(.int .u64 (can)), (.bool false), (.val (Value.slice gb gl gc)), (.flt (all)), (.bool false), (.bool true)] 31 1 false true), (15, .row [(.int .i8 (.ofNat 0)), (.int .i64 (.ofNat 0)), (.str []), .nils] 35 1 false true), (27, .row [(.int .i8 (.ofNat 0)), (.int .i8 (.ofNat 0)), (.int .i64 (.ofNat 0)), (.str []), .nils, (.int .i8 (.ofNat 0)), .nils, (.str []), (.str []), (.str []), .nils, (.str []), (.str []), (.bool false), .nils] 40 1 false true), (30, .row [(.int .u64 (can)), (.bool false), (.val (Value.slice gb gl gc)), (.flt (all)), (.bool false), (.bool true)] 31 1 false true), (31, .row [.nilp] 86 1 false true), (32, .row [(.int .u64 (can)), (.bool false), (.val (Value.slice gb gl gc)), (.flt (all)), (.bool false), (.bool true)] 31 1 false true), (33, .row [(.int .i8 (kd)), (.val (vk)), (.val (s1)), (.val (s2)), (.val (s3)), (.val (vm)), (.val (s4)), (.val (s5)), (.bool (dn))] 26 1 false true), (34, .row [(.int .i8 (.ofNat 0)), (.int .i8 (.ofNat 0)), (.int .i64 (.ofNat 0)), (.str []), .nils, (.int .i8 (.ofNat 0)), .nils, (.str []), (.str []), (.str []), .nils, (.str []), (.str []), (.bool false), .nils] 40 1 false true)] 35)) (by kernel_rfl) ?_
      refine thenQ_nrm ?_
      refine AW.seq1 ?_
      refine AW.keepOut [0, 1, 2, 3, 4, 5, 6, 7, 8, 9, 11] ?_
      refine AW.regionL [0, 1, 2, 3, 4, 5, 6, 7, 8, 9, 10, 11, 12, 13, 14, 15, 16, 17, 18, 19, 20, 21, 22, 23, 24, 25, 26, 27, 28, 29, 30, 31, 32, 33, 34] (by kernel_rfl) ?_
      refine AO.run1 [0, 1, 2, 3, 4, 5, 6, 7, 8, 9, 10, 11, 12, 13, 14, 15, 16, 17, 18, 19, 20, 21, 22, 23, 24, 25, 26, 27, 28, 29, 30, 31] [32, 33, 34] rfl (tm' := (tmL 65 [(0, (.agg [(.int .i8 (kd)), (.val (vk)), (.val (s1)), (.val (s2)), (.val (s3)), (.val (vm)), (.val (s4)), (.val (s5)), (.bool (dn))])), (1, (.agg [(.int .u64 (can)), (.bool (index)), (.val (Value.slice gb gl gc)), (.flt (all)), (.bool false), (.bool true)])), (2, (.ptr (Pos.ofSucc 13) 0)), (3, (.ptr (Pos.ofSucc 14) 0)), (4, (.bool false)), (5, (.ptr (Pos.ofSucc 15) 0)), (6, (.bool false)), (7, (.bool false)), (8, (.ptr (Pos.ofSucc 27) 0)), (9, (.int .i64 (.ofNat 1))), (11, (.bool false)), (31, (.ptr (Pos.ofSucc 15) 0)), (32, (.int .i8 (.ofNat 0))), (33, (.bool true)), (34, (.bool true)), (35, (.ptr (Pos.ofSucc 15) 2)), (36, (.str [])), (37, (.bool true)), (38, (.bool true)), (39, (.bool true)), (40, (.bool false)), (41, (.bool true)), (42, (.bool true)), (43, (.bool true)), (44, (.bool false)), (45, (.bool true)), (46, (.bool true)), (47, (.bool true)), (48, (.ptr (Pos.ofSucc 27) 0)), (49, (.int .i8 (.ofNat 0))), (50, (.bool true)), (51, (.bool true)), (52, (.bool true)), (53, (.ptr (Pos.ofSucc 27) 14)), (54, .nils), (55, (.int .i64 (.ofNat 0))), (56, (.bool true)), (57, (.bool true)), (58, (.bool true)), (59, (.int .i64 (.ofNat 1))), (60, (.bool true)), (61, (.bool true)), (62, (.bool true))])) (σ' := (stS 13 [] [(13, .row [(.int .i8 (kd)), (.val (vk)), (.val (s1)), (.val (s2)), (.val (s3)), (.val (vm)), (.val (s4)), (.val (s5)), (.bool (dn))] 26 1 false true), (14, .row [(.int .u64 (can)), (.bool false), (.val (Value.slice gb gl gc)), (.flt (all)), (.bool false), (.bool true)] 31 1 false true), (15, .row [(.int .i8 (.ofNat 0)), (.int .i64 (.ofNat 0)), (.str []), .nils] 35 1 false true), (27, .row [(.int .i8 (.ofNat 0)), (.int .i8 (.ofNat 0)), (.int .i64 (.ofNat 0)), (.str []), .nils, (.int .i8 (.ofNat 0)), .nils, (.str []), (.str []), (.str []), .nils, (.str []), (.str []), (.bool false), .nils] 40 1 false true), (30, .row [(.int .u64 (can)), (.bool false), (.val (Value.slice gb gl gc)), (.flt (all)), (.bool false), (.bool true)] 31 1 false true), (31, .row [.nilp] 86 1 false true), (32, .row [(.int .u64 (can)), (.bool false), (.val (Value.slice gb gl gc)), (.flt (all)), (.bool false), (.bool true)] 31 1 false true), (33, .row [(.int .i8 (kd)), (.val (vk)), (.val (s1)), (.val (s2)), (.val (s3)), (.val (vm)), (.val (s4)), (.val (s5)), (.bool (dn))] 26 1 false true), (34, .row [(.int .i8 (.ofNat 0)), (.int .i8 (.ofNat 0)), (.int .i64 (.ofNat 0)), (.str []), .nils, (.int .i8 (.ofNat 0)), .nils, (.str []), (.str []), (.str []), .nils, (.str []), (.str []), (.bool false), .nils] 40 1 false true)] 35)) (by kernel_rfl) ?_
      refine AO.call (f := 5) (args := []) rfl (by kernel_rfl) rfl (by kernel_rfl) ?_
      refine (hW _).mono ?_
      rintro B3 v σ3 ⟨rfl, rfl, rfl⟩
      refine AO.run1 [33, 34] [] rfl (tm' := (tmL 65 [(0, (.agg [(.int .i8 (kd)), (.val (vk)), (.val (s1)), (.val (s2)), (.val (s3)), (.val (vm)), (.val (s4)), (.val (s5)), (.bool (dn))])), (1, (.agg [(.int .u64 (can)), (.bool (index)), (.val (Value.slice gb gl gc)), (.flt (all)), (.bool false), (.bool true)])), (2, (.ptr (Pos.ofSucc 13) 0)), (3, (.ptr (Pos.ofSucc 14) 0)), (4, (.bool true)), (5, (.ptr (Pos.ofSucc 15) 0)), (6, (.bool false)), (7, (.bool false)), (8, (.ptr (Pos.ofSucc 27) 0)), (9, (.int .i64 (.ofNat 1))), (11, (.bool false)), (31, (.ptr (Pos.ofSucc 15) 0)), (32, (.int .i8 (.ofNat 0))), (33, (.bool true)), (34, (.bool true)), (35, (.ptr (Pos.ofSucc 15) 2)), (36, (.str [])), (37, (.bool true)), (38, (.bool true)), (39, (.bool true)), (40, (.bool false)), (41, (.bool true)), (42, (.bool true)), (43, (.bool true)), (44, (.bool false)), (45, (.bool true)), (46, (.bool true)), (47, (.bool true)), (48, (.ptr (Pos.ofSucc 27) 0)), (49, (.int .i8 (.ofNat 0))), (50, (.bool true)), (51, (.bool true)), (52, (.bool true)), (53, (.ptr (Pos.ofSucc 27) 14)), (54, .nils), (55, (.int .i64 (.ofNat 0))), (56, (.bool true)), (57, (.bool true)), (58, (.bool true)), (59, (.int .i64 (.ofNat 1))), (60, (.bool true)), (61, (.bool true)), (62, (.bool true)), (63, (.bool true)), (64, (.bool true))])) (σ' := (stS 13 [] [(13, .row [(.int .i8 (kd)), (.val (vk)), (.val (s1)), (.val (s2)), (.val (s3)), (.val (vm)), (.val (s4)), (.val (s5)), (.bool (dn))] 26 1 false true), (14, .row [(.int .u64 (can)), (.bool false), (.val (Value.slice gb gl gc)), (.flt (all)), (.bool false), (.bool true)] 31 1 false true), (15, .row [(.int .i8 (.ofNat 0)), (.int .i64 (.ofNat 0)), (.str []), .nils] 35 1 false true), (27, .row [(.int .i8 (.ofNat 0)), (.int .i8 (.ofNat 0)), (.int .i64 (.ofNat 0)), (.str []), .nils, (.int .i8 (.ofNat 0)), .nils, (.str []), (.str []), (.str []), .nils, (.str []), (.str []), (.bool false), .nils] 40 1 false true), (30, .row [(.int .u64 (can)), (.bool false), (.val (Value.slice gb gl gc)), (.flt (all)), (.bool false), (.bool true)] 31 1 false true), (31, .row [.nilp] 86 1 false true), (32, .row [(.int .u64 (can)), (.bool false), (.val (Value.slice gb gl gc)), (.flt (all)), (.bool false), (.bool true)] 31 1 false true), (33, .row [(.int .i8 (kd)), (.val (vk)), (.val (s1)), (.val (s2)), (.val (s3)), (.val (vm)), (.val (s4)), (.val (s5)), (.bool (dn))] 26 1 false true), (34, .row [(.int .i8 (.ofNat 0)), (.int .i8 (.ofNat 0)), (.int .i64 (.ofNat 0)), (.str []), .nils, (.int .i8 (.ofNat 0)), .nils, (.str []), (.str []), (.str []), .nils, (.str []), (.str []), (.bool false), .nils] 40 1 false true)] 35)) (by kernel_rfl) ?_
      refine AO.nil (nrmQ_mk ?_)
      refine keepQ_nrm (tm' := (tmL 65 [(0, (.agg [(.int .i8 (kd)), (.val (vk)), (.val (s1)), (.val (s2)), (.val (s3)), (.val (vm)), (.val (s4)), (.val (s5)), (.bool (dn))])), (1, (.agg [(.int .u64 (can)), (.bool (index)), (.val (Value.slice gb gl gc)), (.flt (all)), (.bool false), (.bool true)])), (2, (.ptr (Pos.ofSucc 13) 0)), (3, (.ptr (Pos.ofSucc 14) 0)), (4, (.bool true)), (5, (.ptr (Pos.ofSucc 15) 0)), (6, (.bool false)), (7, (.bool false)), (8, (.ptr (Pos.ofSucc 27) 0)), (9, (.int .i64 (.ofNat 1))), (11, (.bool false))])) (by kernel_rfl) ?_
      refine thenQ_nrm ?_
      refine AW.ret ?_
      refine ⟨(.bool true), by kernel_rfl, ?_⟩
      exact ⟨rfl, rfl⟩
    · refine AO.run1 [2, 3, 4, 5, 6, 7, 8, 9] [] rfl (tm' := (tmL 65 [(0, (.agg [(.int .i8 (kd)), (.val (vk)), (.val (s1)), (.val (s2)), (.val (s3)), (.val (vm)), (.val (s4)), (.val (s5)), (.bool (dn))])), (1, (.agg [(.int .u64 (can)), (.bool (index)), (.val (Value.slice gb gl gc)), (.flt (all)), (.bool true), (.bool false)])), (2, (.ptr (Pos.ofSucc 13) 0)), (3, (.ptr (Pos.ofSucc 14) 0)), (4, (.bool false)), (5, (.ptr (Pos.ofSucc 15) 0)), (6, (.bool false)), (7, (.bool false)), (11, (.bool false)), (13, (.tup [(.agg [(.int .i8 (.ofNat 0)), (.int .i64 (.ofNat 0)), (.str []), .nils]), (.bool false), (.bool false)])), (14, (.agg [(.int .i8 (kd)), (.val (vk)), (.val (s1)), (.val (s2)), (.val (s3)), (.val (vm)), (.val (s4)), (.val (s5)), (.bool (dn))])), (15, (.tup [(.agg [(.int .i8 (.ofNat 0)), (.int .i64 (.ofNat 0)), (.str []), .nils]), (.bool false), (.bool false)])), (16, (.agg [(.int .i8 (.ofNat 0)), (.int .i64 (.ofNat 0)), (.str []), .nils])), (17, (.bool false)), (18, (.bool false))])) (σ' := (stS 13 [] [(13, .row [(.int .i8 (kd)), (.val (vk)), (.val (s1)), (.val (s2)), (.val (s3)), (.val (vm)), (.val (s4)), (.val (s5)), (.bool (dn))] 26 1 false true), (14, .row [(.int .u64 (can)), (.bool (index)), (.val (Value.slice gb gl gc)), (.flt (all)), (.bool true), (.bool false)] 31 1 false true), (15, .row [(.int .i8 (.ofNat 0)), (.int .i64 (.ofNat 0)), (.str []), .nils] 35 1 false true)] 16)) (by kernel_rfl) ?_
      refine AO.nil (nrmQ_mk ?_)
      refine keepQ_nrm (tm' := (tmL 65 [(0, (.agg [(.int .i8 (kd)), (.val (vk)), (.val (s1)), (.val (s2)), (.val (s3)), (.val (vm)), (.val (s4)), (.val (s5)), (.bool (dn))])), (1, (.agg [(.int .u64 (can)), (.bool (index)), (.val (Value.slice gb gl gc)), (.flt (all)), (.bool true), (.bool false)])), (2, (.ptr (Pos.ofSucc 13) 0)), (3, (.ptr (Pos.ofSucc 14) 0)), (4, (.bool false)), (5, (.ptr (Pos.ofSucc 15) 0)), (6, (.bool false)), (7, (.bool false)), (11, (.bool false))])) (by kernel_rfl) ?_
      refine thenQ_nrm ?_
      refine AW.seq1 ?_
      refine AW.run1 [0, 1, 2, 3, 4, 5, 6, 7, 8, 9, 11] (tm' := (tmL 65 [(0, (.agg [(.int .i8 (kd)), (.val (vk)), (.val (s1)), (.val (s2)), (.val (s3)), (.val (vm)), (.val (s4)), (.val (s5)), (.bool (dn))])), (1, (.agg [(.int .u64 (can)), (.bool (index)), (.val (Value.slice gb gl gc)), (.flt (all)), (.bool true), (.bool false)])), (2, (.ptr (Pos.ofSucc 13) 0)), (3, (.ptr (Pos.ofSucc 14) 0)), (4, (.bool false)), (5, (.ptr (Pos.ofSucc 15) 0)), (6, (.bool false)), (7, (.bool false)), (11, (.bool false))])) (σ' := (stS 13 [] [(13, .row [(.int .i8 (kd)), (.val (vk)), (.val (s1)), (.val (s2)), (.val (s3)), (.val (vm)), (.val (s4)), (.val (s5)), (.bool (dn))] 26 1 false true), (14, .row [(.int .u64 (can)), (.bool false), (.val (Value.slice gb gl gc)), (.flt (all)), (.bool true), (.bool false)] 31 1 false true), (15, .row [(.int .i8 (.ofNat 0)), (.int .i64 (.ofNat 0)), (.str []), .nils] 35 1 false true)] 16)) (by kernel_rfl) ?_
      refine thenQ_nrm ?_
      refine AW.seq1 ?_
      refine AW.drawN hm 300 [0, 1, 2, 3, 4, 5, 6, 7, 8, 9, 11] (tm' := (tmL 65 [(0, (.agg [(.int .i8 (kd)), (.val (vk)), (.val (s1)), (.val (s2)), (.val (s3)), (.val (vm)), (.val (s4)), (.val (s5)), (.bool (dn))])), (1, (.agg [(.int .u64 (can)), (.bool (index)), (.val (Value.slice gb gl gc)), (.flt (all)), (.bool true), (.bool false)])), (2, (.ptr (Pos.ofSucc 13) 0)), (3, (.ptr (Pos.ofSucc 14) 0)), (4, (.bool false)), (5, (.ptr (Pos.ofSucc 15) 0)), (6, (.bool false)), (7, (.bool false)), (8, (.ptr (Pos.ofSucc 27) 0)), (9, (.int .i64 (.ofNat 1))), (11, (.bool false))])) (σ' := (stS 13 [] [(13, .row [(.int .i8 (kd)), (.val (vk)), (.val (s1)), (.val (s2)), (.val (s3)), (.val (vm)), (.val (s4)), (.val (s5)), (.bool (dn))] 26 1 false true), (14, .row [(.int .u64 (can)), (.bool false), (.val (Value.slice gb gl gc)), (.flt (all)), (.bool true), (.bool false)] 31 1 false true), (15, .row [(.int .i8 (.ofNat 0)), (.int .i64 (.ofNat 0)), (.str []), .nils] 35 1 false true), (27, .row [(.int .i8 (.ofNat 0)), (.int .i8 (.ofNat 0)), (.int .i64 (.ofNat 0)), (.str []), .nils, (.int .i8 (.ofNat 0)), .nils, (.str []), (.str []), (.str []), .nils, (.str []), (.str []), (.bool false), .nils] 40 1 false true), (30, .row [(.int .u64 (can)), (.bool false), (.val (Value.slice gb gl gc)), (.flt (all)), (.bool true), (.bool false)] 31 1 false true), (31, .row [.nilp] 86 1 false true), (32, .row [(.int .u64 (can)), (.bool false), (.val (Value.slice gb gl gc)), (.flt (all)), (.bool true), (.bool false)] 31 1 false true), (33, .row [(.int .i8 (kd)), (.val (vk)), (.val (s1)), (.val (s2)), (.val (s3)), (.val (vm)), (.val (s4)), (.val (s5)), (.bool (dn))] 26 1 false true), (34, .row [(.int .i8 (.ofNat 0)), (.int .i8 (.ofNat 0)), (.int .i64 (.ofNat 0)), (.str []), .nils, (.int .i8 (.ofNat 0)), .nils, (.str []), (.str []), (.str []), .nils, (.str []), (.str []), (.bool false), .nils] 40 1 false true)] 35)) (by kernel_rfl) ?_
      refine thenQ_nrm ?_
      refine AW.seq1 ?_
      refine AW.keepOut [0, 1, 2, 3, 4, 5, 6, 7, 8, 9, 11] ?_
      refine AW.regionL [0, 1, 2, 3, 4, 5, 6, 7, 8, 9, 10, 11, 12, 13, 14, 15, 16, 17, 18, 19, 20, 21, 22, 23, 24, 25, 26, 27, 28, 29, 30, 31, 32, 33, 34] (by kernel_rfl) ?_
      refine AO.run1 [0, 1, 2, 3, 4, 5, 6, 7, 8, 9, 10, 11, 12, 13, 14, 15, 16, 17, 18, 19, 20, 21, 22, 23, 24, 25, 26, 27, 28, 29, 30, 31] [32, 33, 34] rfl (tm' := (tmL 65 [(0, (.agg [(.int .i8 (kd)), (.val (vk)), (.val (s1)), (.val (s2)), (.val (s3)), (.val (vm)), (.val (s4)), (.val (s5)), (.bool (dn))])), (1, (.agg [(.int .u64 (can)), (.bool (index)), (.val (Value.slice gb gl gc)), (.flt (all)), (.bool true), (.bool false)])), (2, (.ptr (Pos.ofSucc 13) 0)), (3, (.ptr (Pos.ofSucc 14) 0)), (4, (.bool false)), (5, (.ptr (Pos.ofSucc 15) 0)), (6, (.bool false)), (7, (.bool false)), (8, (.ptr (Pos.ofSucc 27) 0)), (9, (.int .i64 (.ofNat 1))), (11, (.bool false)), (31, (.ptr (Pos.ofSucc 15) 0)), (32, (.int .i8 (.ofNat 0))), (33, (.bool true)), (34, (.bool true)), (35, (.ptr (Pos.ofSucc 15) 2)), (36, (.str [])), (37, (.bool true)), (38, (.bool true)), (39, (.bool true)), (40, (.bool false)), (41, (.bool true)), (42, (.bool true)), (43, (.bool true)), (44, (.bool false)), (45, (.bool true)), (46, (.bool true)), (47, (.bool true)), (48, (.ptr (Pos.ofSucc 27) 0)), (49, (.int .i8 (.ofNat 0))), (50, (.bool true)), (51, (.bool true)), (52, (.bool true)), (53, (.ptr (Pos.ofSucc 27) 14)), (54, .nils), (55, (.int .i64 (.ofNat 0))), (56, (.bool true)), (57, (.bool true)), (58, (.bool true)), (59, (.int .i64 (.ofNat 1))), (60, (.bool true)), (61, (.bool true)), (62, (.bool true))])) (σ' := (stS 13 [] [(13, .row [(.int .i8 (kd)), (.val (vk)), (.val (s1)), (.val (s2)), (.val (s3)), (.val (vm)), (.val (s4)), (.val (s5)), (.bool (dn))] 26 1 false true), (14, .row [(.int .u64 (can)), (.bool false), (.val (Value.slice gb gl gc)), (.flt (all)), (.bool true), (.bool false)] 31 1 false true), (15, .row [(.int .i8 (.ofNat 0)), (.int .i64 (.ofNat 0)), (.str []), .nils] 35 1 false true), (27, .row [(.int .i8 (.ofNat 0)), (.int .i8 (.ofNat 0)), (.int .i64 (.ofNat 0)), (.str []), .nils, (.int .i8 (.ofNat 0)), .nils, (.str []), (.str []), (.str []), .nils, (.str []), (.str []), (.bool false), .nils] 40 1 false true), (30, .row [(.int .u64 (can)), (.bool false), (.val (Value.slice gb gl gc)), (.flt (all)), (.bool true), (.bool false)] 31 1 false true), (31, .row [.nilp] 86 1 false true), (32, .row [(.int .u64 (can)), (.bool false), (.val (Value.slice gb gl gc)), (.flt (all)), (.bool true), (.bool false)] 31 1 false true), (33, .row [(.int .i8 (kd)), (.val (vk)), (.val (s1)), (.val (s2)), (.val (s3)), (.val (vm)), (.val (s4)), (.val (s5)), (.bool (dn))] 26 1 false true), (34, .row [(.int .i8 (.ofNat 0)), (.int .i8 (.ofNat 0)), (.int .i64 (.ofNat 0)), (.str []), .nils, (.int .i8 (.ofNat 0)), .nils, (.str []), (.str []), (.str []), .nils, (.str []), (.str []), (.bool false), .nils] 40 1 false true)] 35)) (by kernel_rfl) ?_
      refine AO.call (f := 5) (args := []) rfl (by kernel_rfl) rfl (by kernel_rfl) ?_
      refine (hW _).mono ?_
      rintro B3 v σ3 ⟨rfl, rfl, rfl⟩
      refine AO.run1 [33, 34] [] rfl (tm' := (tmL 65 [(0, (.agg [(.int .i8 (kd)), (.val (vk)), (.val (s1)), (.val (s2)), (.val (s3)), (.val (vm)), (.val (s4)), (.val (s5)), (.bool (dn))])), (1, (.agg [(.int .u64 (can)), (.bool (index)), (.val (Value.slice gb gl gc)), (.flt (all)), (.bool true), (.bool false)])), (2, (.ptr (Pos.ofSucc 13) 0)), (3, (.ptr (Pos.ofSucc 14) 0)), (4, (.bool true)), (5, (.ptr (Pos.ofSucc 15) 0)), (6, (.bool false)), (7, (.bool false)), (8, (.ptr (Pos.ofSucc 27) 0)), (9, (.int .i64 (.ofNat 1))), (11, (.bool false)), (31, (.ptr (Pos.ofSucc 15) 0)), (32, (.int .i8 (.ofNat 0))), (33, (.bool true)), (34, (.bool true)), (35, (.ptr (Pos.ofSucc 15) 2)), (36, (.str [])), (37, (.bool true)), (38, (.bool true)), (39, (.bool true)), (40, (.bool false)), (41, (.bool true)), (42, (.bool true)), (43, (.bool true)), (44, (.bool false)), (45, (.bool true)), (46, (.bool true)), (47, (.bool true)), (48, (.ptr (Pos.ofSucc 27) 0)), (49, (.int .i8 (.ofNat 0))), (50, (.bool true)), (51, (.bool true)), (52, (.bool true)), (53, (.ptr (Pos.ofSucc 27) 14)), (54, .nils), (55, (.int .i64 (.ofNat 0))), (56, (.bool true)), (57, (.bool true)), (58, (.bool true)), (59, (.int .i64 (.ofNat 1))), (60, (.bool true)), (61, (.bool true)), (62, (.bool true)), (63, (.bool true)), (64, (.bool true))])) (σ' := (stS 13 [] [(13, .row [(.int .i8 (kd)), (.val (vk)), (.val (s1)), (.val (s2)), (.val (s3)), (.val (vm)), (.val (s4)), (.val (s5)), (.bool (dn))] 26 1 false true), (14, .row [(.int .u64 (can)), (.bool false), (.val (Value.slice gb gl gc)), (.flt (all)), (.bool true), (.bool false)] 31 1 false true), (15, .row [(.int .i8 (.ofNat 0)), (.int .i64 (.ofNat 0)), (.str []), .nils] 35 1 false true), (27, .row [(.int .i8 (.ofNat 0)), (.int .i8 (.ofNat 0)), (.int .i64 (.ofNat 0)), (.str []), .nils, (.int .i8 (.ofNat 0)), .nils, (.str []), (.str []), (.str []), .nils, (.str []), (.str []), (.bool false), .nils] 40 1 false true), (30, .row [(.int .u64 (can)), (.bool false), (.val (Value.slice gb gl gc)), (.flt (all)), (.bool true), (.bool false)] 31 1 false true), (31, .row [.nilp] 86 1 false true), (32, .row [(.int .u64 (can)), (.bool false), (.val (Value.slice gb gl gc)), (.flt (all)), (.bool true), (.bool false)] 31 1 false true), (33, .row [(.int .i8 (kd)), (.val (vk)), (.val (s1)), (.val (s2)), (.val (s3)), (.val (vm)), (.val (s4)), (.val (s5)), (.bool (dn))] 26 1 false true), (34, .row [(.int .i8 (.ofNat 0)), (.int .i8 (.ofNat 0)), (.int .i64 (.ofNat 0)), (.str []), .nils, (.int .i8 (.ofNat 0)), .nils, (.str []), (.str []), (.str []), .nils, (.str []), (.str []), (.bool false), .nils] 40 1 false true)] 35)) (by kernel_rfl) ?_
      refine AO.nil (nrmQ_mk ?_)
      refine keepQ_nrm (tm' := (tmL 65 [(0, (.agg [(.int .i8 (kd)), (.val (vk)), (.val (s1)), (.val (s2)), (.val (s3)), (.val (vm)), (.val (s4)), (.val (s5)), (.bool (dn))])), (1, (.agg [(.int .u64 (can)), (.bool (index)), (.val (Value.slice gb gl gc)), (.flt (all)), (.bool true), (.bool false)])), (2, (.ptr (Pos.ofSucc 13) 0)), (3, (.ptr (Pos.ofSucc 14) 0)), (4, (.bool true)), (5, (.ptr (Pos.ofSucc 15) 0)), (6, (.bool false)), (7, (.bool false)), (8, (.ptr (Pos.ofSucc 27) 0)), (9, (.int .i64 (.ofNat 1))), (11, (.bool false))])) (by kernel_rfl) ?_
      refine thenQ_nrm ?_
      refine AW.ret ?_
      refine ⟨(.bool true), by kernel_rfl, ?_⟩
      exact ⟨rfl, rfl⟩
    · refine AO.run1 [2, 3, 4, 5, 6, 7, 8, 9] [] rfl (tm' := (tmL 65 [(0, (.agg [(.int .i8 (kd)), (.val (vk)), (.val (s1)), (.val (s2)), (.val (s3)), (.val (vm)), (.val (s4)), (.val (s5)), (.bool (dn))])), (1, (.agg [(.int .u64 (can)), (.bool (index)), (.val (Value.slice gb gl gc)), (.flt (all)), (.bool true), (.bool true)])), (2, (.ptr (Pos.ofSucc 13) 0)), (3, (.ptr (Pos.ofSucc 14) 0)), (4, (.bool false)), (5, (.ptr (Pos.ofSucc 15) 0)), (6, (.bool false)), (7, (.bool false)), (11, (.bool false)), (13, (.tup [(.agg [(.int .i8 (.ofNat 0)), (.int .i64 (.ofNat 0)), (.str []), .nils]), (.bool false), (.bool false)])), (14, (.agg [(.int .i8 (kd)), (.val (vk)), (.val (s1)), (.val (s2)), (.val (s3)), (.val (vm)), (.val (s4)), (.val (s5)), (.bool (dn))])), (15, (.tup [(.agg [(.int .i8 (.ofNat 0)), (.int .i64 (.ofNat 0)), (.str []), .nils]), (.bool false), (.bool false)])), (16, (.agg [(.int .i8 (.ofNat 0)), (.int .i64 (.ofNat 0)), (.str []), .nils])), (17, (.bool false)), (18, (.bool false))])) (σ' := (stS 13 [] [(13, .row [(.int .i8 (kd)), (.val (vk)), (.val (s1)), (.val (s2)), (.val (s3)), (.val (vm)), (.val (s4)), (.val (s5)), (.bool (dn))] 26 1 false true), (14, .row [(.int .u64 (can)), (.bool (index)), (.val (Value.slice gb gl gc)), (.flt (all)), (.bool true), (.bool true)] 31 1 false true), (15, .row [(.int .i8 (.ofNat 0)), (.int .i64 (.ofNat 0)), (.str []), .nils] 35 1 false true)] 16)) (by kernel_rfl) ?_
      refine AO.nil (nrmQ_mk ?_)
      refine keepQ_nrm (tm' := (tmL 65 [(0, (.agg [(.int .i8 (kd)), (.val (vk)), (.val (s1)), (.val (s2)), (.val (s3)), (.val (vm)), (.val (s4)), (.val (s5)), (.bool (dn))])), (1, (.agg [(.int .u64 (can)), (.bool (index)), (.val (Value.slice gb gl gc)), (.flt (all)), (.bool true), (.bool true)])), (2, (.ptr (Pos.ofSucc 13) 0)), (3, (.ptr (Pos.ofSucc 14) 0)), (4, (.bool false)), (5, (.ptr (Pos.ofSucc 15) 0)), (6, (.bool false)), (7, (.bool false)), (11, (.bool false))])) (by kernel_rfl) ?_
      refine thenQ_nrm ?_
      refine AW.seq1 ?_
      refine AW.run1 [0, 1, 2, 3, 4, 5, 6, 7, 8, 9, 11] (tm' := (tmL 65 [(0, (.agg [(.int .i8 (kd)), (.val (vk)), (.val (s1)), (.val (s2)), (.val (s3)), (.val (vm)), (.val (s4)), (.val (s5)), (.bool (dn))])), (1, (.agg [(.int .u64 (can)), (.bool (index)), (.val (Value.slice gb gl gc)), (.flt (all)), (.bool true), (.bool true)])), (2, (.ptr (Pos.ofSucc 13) 0)), (3, (.ptr (Pos.ofSucc 14) 0)), (4, (.bool false)), (5, (.ptr (Pos.ofSucc 15) 0)), (6, (.bool false)), (7, (.bool false)), (11, (.bool false))])) (σ' := (stS 13 [] [(13, .row [(.int .i8 (kd)), (.val (vk)), (.val (s1)), (.val (s2)), (.val (s3)), (.val (vm)), (.val (s4)), (.val (s5)), (.bool (dn))] 26 1 false true), (14, .row [(.int .u64 (can)), (.bool false), (.val (Value.slice gb gl gc)), (.flt (all)), (.bool true), (.bool true)] 31 1 false true), (15, .row [(.int .i8 (.ofNat 0)), (.int .i64 (.ofNat 0)), (.str []), .nils] 35 1 false true)] 16)) (by kernel_rfl) ?_
      refine thenQ_nrm ?_
      refine AW.seq1 ?_
      refine AW.drawN hm 300 [0, 1, 2, 3, 4, 5, 6, 7, 8, 9, 11] (tm' := (tmL 65 [(0, (.agg [(.int .i8 (kd)), (.val (vk)), (.val (s1)), (.val (s2)), (.val (s3)), (.val (vm)), (.val (s4)), (.val (s5)), (.bool (dn))])), (1, (.agg [(.int .u64 (can)), (.bool (index)), (.val (Value.slice gb gl gc)), (.flt (all)), (.bool true), (.bool true)])), (2, (.ptr (Pos.ofSucc 13) 0)), (3, (.ptr (Pos.ofSucc 14) 0)), (4, (.bool false)), (5, (.ptr (Pos.ofSucc 15) 0)), (6, (.bool false)), (7, (.bool false)), (8, (.ptr (Pos.ofSucc 27) 0)), (9, (.int .i64 (.ofNat 1))), (11, (.bool false))])) (σ' := (stS 13 [] [(13, .row [(.int .i8 (kd)), (.val (vk)), (.val (s1)), (.val (s2)), (.val (s3)), (.val (vm)), (.val (s4)), (.val (s5)), (.bool (dn))] 26 1 false true), (14, .row [(.int .u64 (can)), (.bool false), (.val (Value.slice gb gl gc)), (.flt (all)), (.bool true), (.bool true)] 31 1 false true), (15, .row [(.int .i8 (.ofNat 0)), (.int .i64 (.ofNat 0)), (.str []), .nils] 35 1 false true), (27, .row [(.int .i8 (.ofNat 0)), (.int .i8 (.ofNat 0)), (.int .i64 (.ofNat 0)), (.str []), .nils, (.int .i8 (.ofNat 0)), .nils, (.str []), (.str []), (.str []), .nils, (.str []), (.str []), (.bool false), .nils] 40 1 false true), (30, .row [(.int .u64 (can)), (.bool false), (.val (Value.slice gb gl gc)), (.flt (all)), (.bool true), (.bool true)] 31 1 false true), (31, .row [.nilp] 86 1 false true), (32, .row [(.int .u64 (can)), (.bool false), (.val (Value.slice gb gl gc)), (.flt (all)), (.bool true), (.bool true)] 31 1 false true), (33, .row [(.int .i8 (kd)), (.val (vk)), (.val (s1)), (.val (s2)), (.val (s3)), (.val (vm)), (.val (s4)), (.val (s5)), (.bool (dn))] 26 1 false true), (34, .row [(.int .i8 (.ofNat 0)), (.int .i8 (.ofNat 0)), (.int .i64 (.ofNat 0)), (.str []), .nils, (.int .i8 (.ofNat 0)), .nils, (.str []), (.str []), (.str []), .nils, (.str []), (.str []), (.bool false), .nils] 40 1 false true)] 35)) (by kernel_rfl) ?_
      refine thenQ_nrm ?_
      refine AW.seq1 ?_
      refine AW.keepOut [0, 1, 2, 3, 4, 5, 6, 7, 8, 9, 11] ?_
      refine AW.regionL [0, 1, 2, 3, 4, 5, 6, 7, 8, 9, 10, 11, 12, 13, 14, 15, 16, 17, 18, 19, 20, 21, 22, 23, 24, 25, 26, 27, 28, 29, 30, 31, 32, 33, 34] (by kernel_rfl) ?_
      refine AO.run1 [0, 1, 2, 3, 4, 5, 6, 7, 8, 9, 10, 11, 12, 13, 14, 15, 16, 17, 18, 19, 20, 21, 22, 23, 24, 25, 26, 27, 28, 29, 30, 31] [32, 33, 34] rfl (tm' := (tmL 65 [(0, (.agg [(.int .i8 (kd)), (.val (vk)), (.val (s1)), (.val (s2)), (.val (s3)), (.val (vm)), (.val (s4)), (.val (s5)), (.bool (dn))])), (1, (.agg [(.int .u64 (can)), (.bool (index)), (.val (Value.slice gb gl gc)), (.flt (all)), (.bool true), (.bool true)])), (2, (.ptr (Pos.ofSucc 13) 0)), (3, (.ptr (Pos.ofSucc 14) 0)), (4, (.bool false)), (5, (.ptr (Pos.ofSucc 15) 0)), (6, (.bool false)), (7, (.bool false)), (8, (.ptr (Pos.ofSucc 27) 0)), (9, (.int .i64 (.ofNat 1))), (11, (.bool false)), (31, (.ptr (Pos.ofSucc 15) 0)), (32, (.int .i8 (.ofNat 0))), (33, (.bool true)), (34, (.bool true)), (35, (.ptr (Pos.ofSucc 15) 2)), (36, (.str [])), (37, (.bool true)), (38, (.bool true)), (39, (.bool true)), (40, (.bool false)), (41, (.bool true)), (42, (.bool true)), (43, (.bool true)), (44, (.bool false)), (45, (.bool true)), (46, (.bool true)), (47, (.bool true)), (48, (.ptr (Pos.ofSucc 27) 0)), (49, (.int .i8 (.ofNat 0))), (50, (.bool true)), (51, (.bool true)), (52, (.bool true)), (53, (.ptr (Pos.ofSucc 27) 14)), (54, .nils), (55, (.int .i64 (.ofNat 0))), (56, (.bool true)), (57, (.bool true)), (58, (.bool true)), (59, (.int .i64 (.ofNat 1))), (60, (.bool true)), (61, (.bool true)), (62, (.bool true))])) (σ' := (stS 13 [] [(13, .row [(.int .i8 (kd)), (.val (vk)), (.val (s1)), (.val (s2)), (.val (s3)), (.val (vm)), (.val (s4)), (.val (s5)), (.bool (dn))] 26 1 false true), (14, .row [(.int .u64 (can)), (.bool false), (.val (Value.slice gb gl gc)), (.flt (all)), (.bool true), (.bool true)] 31 1 false true), (15, .row [(.int .i8 (.ofNat 0)), (.int .i64 (.ofNat 0)), (.str []), .nils] 35 1 false true), (27, .row [(.int .i8 (.ofNat 0)), (.int .i8 (.ofNat 0)), (.int .i64 (.ofNat 0)), (.str []), .nils, (.int .i8 (.ofNat 0)), .nils, (.str []), (.str []), (.str []), .nils, (.str []), (.str []), (.bool false), .nils] 40 1 false true), (30, .row [(.int .u64 (can)), (.bool false), (.val (Value.slice gb gl gc)), (.flt (all)), (.bool true), (.bool true)] 31 1 false true), (31, .row [.nilp] 86 1 false true), (32, .row [(.int .u64 (can)), (.bool false), (.val (Value.slice gb gl gc)), (.flt (all)), (.bool true), (.bool true)] 31 1 false true), (33, .row [(.int .i8 (kd)), (.val (vk)), (.val (s1)), (.val (s2)), (.val (s3)), (.val (vm)), (.val (s4)), (.val (s5)), (.bool (dn))] 26 1 false true), (34, .row [(.int .i8 (.ofNat 0)), (.int .i8 (.ofNat 0)), (.int .i64 (.ofNat 0)), (.str []), .nils, (.int .i8 (.ofNat 0)), .nils, (.str []), (.str []), (.str []), .nils, (.str []), (.str []), (.bool false), .nils] 40 1 false true)] 35)) (by kernel_rfl) ?_
      refine AO.call (f := 5) (args := []) rfl (by kernel_rfl) rfl (by kernel_rfl) ?_
      refine (hW _).mono ?_
      rintro B3 v σ3 ⟨rfl, rfl, rfl⟩
      refine AO.run1 [33, 34] [] rfl (tm' := (tmL 65 [(0, (.agg [(.int .i8 (kd)), (.val (vk)), (.val (s1)), (.val (s2)), (.val (s3)), (.val (vm)), (.val (s4)), (.val (s5)), (.bool (dn))])), (1, (.agg [(.int .u64 (can)), (.bool (index)), (.val (Value.slice gb gl gc)), (.flt (all)), (.bool true), (.bool true)])), (2, (.ptr (Pos.ofSucc 13) 0)), (3, (.ptr (Pos.ofSucc 14) 0)), (4, (.bool true)), (5, (.ptr (Pos.ofSucc 15) 0)), (6, (.bool false)), (7, (.bool false)), (8, (.ptr (Pos.ofSucc 27) 0)), (9, (.int .i64 (.ofNat 1))), (11, (.bool false)), (31, (.ptr (Pos.ofSucc 15) 0)), (32, (.int .i8 (.ofNat 0))), (33, (.bool true)), (34, (.bool true)), (35, (.ptr (Pos.ofSucc 15) 2)), (36, (.str [])), (37, (.bool true)), (38, (.bool true)), (39, (.bool true)), (40, (.bool false)), (41, (.bool true)), (42, (.bool true)), (43, (.bool true)), (44, (.bool false)), (45, (.bool true)), (46, (.bool true)), (47, (.bool true)), (48, (.ptr (Pos.ofSucc 27) 0)), (49, (.int .i8 (.ofNat 0))), (50, (.bool true)), (51, (.bool true)), (52, (.bool true)), (53, (.ptr (Pos.ofSucc 27) 14)), (54, .nils), (55, (.int .i64 (.ofNat 0))), (56, (.bool true)), (57, (.bool true)), (58, (.bool true)), (59, (.int .i64 (.ofNat 1))), (60, (.bool true)), (61, (.bool true)), (62, (.bool true)), (63, (.bool true)), (64, (.bool true))])) (σ' := (stS 13 [] [(13, .row [(.int .i8 (kd)), (.val (vk)), (.val (s1)), (.val (s2)), (.val (s3)), (.val (vm)), (.val (s4)), (.val (s5)), (.bool (dn))] 26 1 false true), (14, .row [(.int .u64 (can)), (.bool false), (.val (Value.slice gb gl gc)), (.flt (all)), (.bool true), (.bool true)] 31 1 false true), (15, .row [(.int .i8 (.ofNat 0)), (.int .i64 (.ofNat 0)), (.str []), .nils] 35 1 false true), (27, .row [(.int .i8 (.ofNat 0)), (.int .i8 (.ofNat 0)), (.int .i64 (.ofNat 0)), (.str []), .nils, (.int .i8 (.ofNat 0)), .nils, (.str []), (.str []), (.str []), .nils, (.str []), (.str []), (.bool false), .nils] 40 1 false true), (30, .row [(.int .u64 (can)), (.bool false), (.val (Value.slice gb gl gc)), (.flt (all)), (.bool true), (.bool true)] 31 1 false true), (31, .row [.nilp] 86 1 false true), (32, .row [(.int .u64 (can)), (.bool false), (.val (Value.slice gb gl gc)), (.flt (all)), (.bool true), (.bool true)] 31 1 false true), (33, .row [(.int .i8 (kd)), (.val (vk)), (.val (s1)), (.val (s2)), (.val (s3)), (.val (vm)), (.val (s4)), (.val (s5)), (.bool (dn))] 26 1 false true), (34, .row [(.int .i8 (.ofNat 0)), (.int .i8 (.ofNat 0)), (.int .i64 (.ofNat 0)), (.str []), .nils, (.int .i8 (.ofNat 0)), .nils, (.str []), (.str []), (.str []), .nils, (.str []), (.str []), (.bool false), .nils] 40 1 false true)] 35)) (by kernel_rfl) ?_
      refine AO.nil (nrmQ_mk ?_)
      refine keepQ_nrm (tm' := (tmL 65 [(0, (.agg [(.int .i8 (kd)), (.val (vk)), (.val (s1)), (.val (s2)), (.val (s3)), (.val (vm)), (.val (s4)), (.val (s5)), (.bool (dn))])), (1, (.agg [(.int .u64 (can)), (.bool (index)), (.val (Value.slice gb gl gc)), (.flt (all)), (.bool true), (.bool true)])), (2, (.ptr (Pos.ofSucc 13) 0)), (3, (.ptr (Pos.ofSucc 14) 0)), (4, (.bool true)), (5, (.ptr (Pos.ofSucc 15) 0)), (6, (.bool false)), (7, (.bool false)), (8, (.ptr (Pos.ofSucc 27) 0)), (9, (.int .i64 (.ofNat 1))), (11, (.bool false))])) (by kernel_rfl) ?_
      refine thenQ_nrm ?_
      refine AW.ret ?_
      refine ⟨(.bool true), by kernel_rfl, ?_⟩
      exact ⟨rfl, rfl⟩
end --all
end Go.Ev
