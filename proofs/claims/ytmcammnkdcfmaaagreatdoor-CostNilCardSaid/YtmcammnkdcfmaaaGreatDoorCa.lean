/- Part Ca of the proof that CostNil answers true for every filter and every mood. Conditions: those that each theorem names. -/
import Derived.Test.YtmcammnkdcfmaaaGreatDoorCn
import Derived.Test.YtmcammnkdcfmaaaGreatDoorDat
namespace Go.Ev
open Go.Proofs

theorem list_cons {α : Type} {l : List α} {n : Nat} (h : l.length = n + 1) : ∃ a r, l = a :: r ∧ r.length = n := by
  cases l with
  | nil => simp at h
  | cons a r => exact ⟨a, r, rfl, by simpa using h⟩

theorem list9 {α : Type} {l : List α} (h : l.length = 9) : ∃ a b c d e f g i j, l = [a, b, c, d, e, f, g, i, j] := by
  obtain ⟨a, l0, e0, h0⟩ := list_cons h
  obtain ⟨b, l1, e1, h1⟩ := list_cons h0
  obtain ⟨c, l2, e2, h2⟩ := list_cons h1
  obtain ⟨d, l3, e3, h3⟩ := list_cons h2
  obtain ⟨e, l4, e4, h4⟩ := list_cons h3
  obtain ⟨f, l5, e5, h5⟩ := list_cons h4
  obtain ⟨g, l6, e6, h6⟩ := list_cons h5
  obtain ⟨i, l7, e7, h7⟩ := list_cons h6
  obtain ⟨j, l8, e8, h8⟩ := list_cons h7
  have e9 := List.length_eq_zero_iff.1 h8
  subst e9 e8 e7 e6 e5 e4 e3 e2 e1 e0
  exact ⟨_, _, _, _, _, _, _, _, _, rfl⟩

/-- A filter that is read. -/
theorem isF_of_trod {H : Type} {enc : TypeId × Value → H} {W : World} {sp : Nat → Bool} {held : Bool} : ∀ (fuel : Nat) (cs : List Value) (x : DataW H × List MemPlace), DataW.trod enc Tryz.prog W 0 sp held fuel 26 cs = some x → ∃ t, IsF (fun j => W.heap[j]?) (· < W.heap.size) t cs := by
  intro fuel
  induction fuel using Nat.strongRecOn with
  | ind fuel IH =>
    intro cs x h
    obtain ⟨xs, n, hf, _, hl, hn, hel⟩ := DataW.trod_struct Tryz.underlying26 h
    have c26 : Tryz.prog.cellsOf 26 = 9 := by kernel_rfl
    have c22 : Tryz.prog.cellsOf 22 = 1 := by kernel_rfl
    have c23 : Tryz.prog.cellsOf 23 = 1 := by kernel_rfl
    have c24 : Tryz.prog.cellsOf 24 = 1 := by kernel_rfl
    have c9 : Tryz.prog.cellsOf 9 = 1 := by kernel_rfl
    have c4 : Tryz.prog.cellsOf 4 = 1 := by kernel_rfl
    rw [c26] at hl
    obtain ⟨a0, a1, a2, a3, a4, a5, a6, a7, a8, rfl⟩ := list9 hl
    · have hxs : ∀ i, i < 9 → ∃ y, xs[i]? = some y := fun i hi => ⟨xs[i]'(by rw [hn]; exact hi), by simp⟩
      obtain ⟨y0, h0⟩ := hxs 0 (by omega)
      obtain ⟨y1, h1⟩ := hxs 1 (by omega)
      obtain ⟨y2, h2⟩ := hxs 2 (by omega)
      obtain ⟨y3, h3⟩ := hxs 3 (by omega)
      obtain ⟨y4, h4⟩ := hxs 4 (by omega)
      obtain ⟨y5, h5⟩ := hxs 5 (by omega)
      obtain ⟨y6, h6⟩ := hxs 6 (by omega)
      obtain ⟨y7, h7⟩ := hxs 7 (by omega)
      obtain ⟨y8, h8⟩ := hxs 8 (by omega)
      have e0 : DataW.trod enc Tryz.prog W 0 sp held n 22 (([a0, a1, a2, a3, a4, a5, a6, a7, a8].drop 0).take (Tryz.prog.cellsOf 22)) = xs[0]? := hel 0 _ rfl
      rw [c22] at e0
      replace e0 : DataW.trod enc Tryz.prog W 0 sp held n 22 [a0] = xs[0]? := e0
      have e1 : DataW.trod enc Tryz.prog W 0 sp held n 23 (([a0, a1, a2, a3, a4, a5, a6, a7, a8].drop 1).take (Tryz.prog.cellsOf 23)) = xs[1]? := hel 1 _ rfl
      rw [c23] at e1
      replace e1 : DataW.trod enc Tryz.prog W 0 sp held n 23 [a1] = xs[1]? := e1
      have e2 : DataW.trod enc Tryz.prog W 0 sp held n 9 (([a0, a1, a2, a3, a4, a5, a6, a7, a8].drop 2).take (Tryz.prog.cellsOf 9)) = xs[2]? := hel 2 _ rfl
      rw [c9] at e2
      replace e2 : DataW.trod enc Tryz.prog W 0 sp held n 9 [a2] = xs[2]? := e2
      have e3 : DataW.trod enc Tryz.prog W 0 sp held n 9 (([a0, a1, a2, a3, a4, a5, a6, a7, a8].drop 3).take (Tryz.prog.cellsOf 9)) = xs[3]? := hel 3 _ rfl
      rw [c9] at e3
      replace e3 : DataW.trod enc Tryz.prog W 0 sp held n 9 [a3] = xs[3]? := e3
      have e4 : DataW.trod enc Tryz.prog W 0 sp held n 9 (([a0, a1, a2, a3, a4, a5, a6, a7, a8].drop 4).take (Tryz.prog.cellsOf 9)) = xs[4]? := hel 4 _ rfl
      rw [c9] at e4
      replace e4 : DataW.trod enc Tryz.prog W 0 sp held n 9 [a4] = xs[4]? := e4
      have e5 : DataW.trod enc Tryz.prog W 0 sp held n 24 (([a0, a1, a2, a3, a4, a5, a6, a7, a8].drop 5).take (Tryz.prog.cellsOf 24)) = xs[5]? := hel 5 _ rfl
      rw [c24] at e5
      replace e5 : DataW.trod enc Tryz.prog W 0 sp held n 24 [a5] = xs[5]? := e5
      have e6 : DataW.trod enc Tryz.prog W 0 sp held n 9 (([a0, a1, a2, a3, a4, a5, a6, a7, a8].drop 6).take (Tryz.prog.cellsOf 9)) = xs[6]? := hel 6 _ rfl
      rw [c9] at e6
      replace e6 : DataW.trod enc Tryz.prog W 0 sp held n 9 [a6] = xs[6]? := e6
      have e7 : DataW.trod enc Tryz.prog W 0 sp held n 9 (([a0, a1, a2, a3, a4, a5, a6, a7, a8].drop 7).take (Tryz.prog.cellsOf 9)) = xs[7]? := hel 7 _ rfl
      rw [c9] at e7
      replace e7 : DataW.trod enc Tryz.prog W 0 sp held n 9 [a7] = xs[7]? := e7
      have e8 : DataW.trod enc Tryz.prog W 0 sp held n 4 (([a0, a1, a2, a3, a4, a5, a6, a7, a8].drop 8).take (Tryz.prog.cellsOf 4)) = xs[8]? := hel 8 _ rfl
      rw [c4] at e8
      replace e8 : DataW.trod enc Tryz.prog W 0 sp held n 4 [a8] = xs[8]? := e8
      rw [h0] at e0; rw [h1] at e1; rw [h2] at e2; rw [h3] at e3; rw [h4] at e4; rw [h5] at e5; rw [h6] at e6; rw [h7] at e7; rw [h8] at e8
      obtain ⟨kd, p0, _⟩ := DataW.trod_int Tryz.underlying22 e0
      obtain ⟨db, p2, _⟩ := DataW.trod_string Tryz.underlying9 e2
      obtain ⟨vb, p3, _⟩ := DataW.trod_string Tryz.underlying9 e3
      obtain ⟨sb, p4, _⟩ := DataW.trod_string Tryz.underlying9 e4
      obtain ⟨eb, p6, _⟩ := DataW.trod_string Tryz.underlying9 e6
      obtain ⟨rb, p7, _⟩ := DataW.trod_string Tryz.underlying9 e7
      obtain ⟨dn, p8, _⟩ := DataW.trod_bool Tryz.underlying4 e8
      cases p0; cases p2; cases p3; cases p4; cases p6; cases p7; cases p8
      obtain ⟨lk, ck, k1, k2, k3⟩ := slC_of_trod Tryz.underlying23 c26 (by omega) e1
      obtain ⟨lm, cm, m1, m2, m3⟩ := slC_of_trod Tryz.underlying24 c9 (by omega) e5
      have hk : ∀ i : Fin lk, ∃ t, IsF (fun j => W.heap[j]?) (· < W.heap.size) t ((ck.drop (i.1 * 9)).take 9) := fun i => by
        obtain ⟨m, y, hm, hy⟩ := k3 i.1 i.2
        exact IH m (by omega) _ y hy
      have hmm : ∀ i : Fin lm, ∃ b : ByteArray, cm[i.1]? = some (Value.string b) := fun i => by
        obtain ⟨m, y, hm, hy⟩ := m3 i.1 i.2
        have hi : i.1 < cm.length := by rw [m2]; omega
        have e : (cm.drop (i.1 * 1)).take 1 = [cm[i.1]] := by
          rw [Nat.mul_one, List.drop_eq_getElem_cons hi]; rfl
        rw [e] at hy
        obtain ⟨b, hb, _⟩ := DataW.trod_string Tryz.underlying9 hy
        simp only [List.cons.injEq, and_true] at hb
        exact ⟨b, by rw [List.getElem?_eq_getElem hi, hb]⟩
      refine ⟨.mk kd (List.ofFn fun i => (hk i).choose) _ _ _ (List.ofFn fun i => bytesOf (hmm i).choose) _ _ dn, .mk (by rw [List.length_ofFn]; exact k1) (by rw [List.length_ofFn]; exact k2) (fun i t ht => ?_) (by rw [List.length_ofFn]; exact m1) (by rw [List.length_ofFn]; omega) (fun i x hx => ?_)⟩
      · rw [List.getElem?_ofFn] at ht
        split at ht
        · rename_i hi
          cases ht
          exact (hk ⟨i, hi⟩).choose_spec
        · cases ht
      · rw [List.getElem?_ofFn] at hx
        split at hx
        · rename_i hi
          cases hx
          exact ⟨_, (hmm ⟨i, hi⟩).choose_spec, rfl⟩
        · cases hx


theorem agg_of_cells {v : Value} {cs : List Value} (h : v.cells.toList = cs) (hl : 1 < cs.length) : v = .agg cs.toArray := by
  cases v with
  | agg l =>
    have : l.toList = cs := h
    subst this
    rfl
  | _ => subst h; simp [Value.cells] at hl

theorem trod_float {H : Type} {enc : TypeId × Value → H} {P : Program} {W : World} {sp : Nat → Bool} {held : Bool} {t fuel : Nat} {cs : List Value} {x : DataW H × List MemPlace} {k : FloatKind} (ht : P.underlying t = some (.float k)) (h : DataW.trod enc P W 0 sp held fuel t cs = some x) : ∃ b, cs = [.float k b] := by
  cases fuel with
  | zero => simp [DataW.trod] at h
  | succ n =>
    unfold DataW.trod at h
    rw [ht] at h
    split at h <;> simp_all

theorem slice_of_trod {H : Type} {enc : TypeId × Value → H} {P : Program} {W : World} {sp : Nat → Bool} {held : Bool} {t e fuel : Nat} {cs : List Value} {x : DataW H × List MemPlace} (ht : P.underlying t = some (.slice e)) (h : DataW.trod enc P W 0 sp held fuel t cs = some x) : ∃ a l c, cs = [.slice a l c] := by
  rcases DataW.trod_slice ht h with ⟨hv, _⟩ | ⟨a, len, cap, elems, rest, n, hf, hv, _⟩
  · exact ⟨_, _, _, hv⟩
  · exact ⟨_, _, _, hv⟩

theorem list6 {α : Type} {l : List α} (h : l.length = 6) : ∃ a b c d e f, l = [a, b, c, d, e, f] := by
  obtain ⟨a, l0, e0, h0⟩ := list_cons h
  obtain ⟨b, l1, e1, h1⟩ := list_cons h0
  obtain ⟨c, l2, e2, h2⟩ := list_cons h1
  obtain ⟨d, l3, e3, h3⟩ := list_cons h2
  obtain ⟨e, l4, e4, h4⟩ := list_cons h3
  obtain ⟨f, l5, e5, h5⟩ := list_cons h4
  have e9 := List.length_eq_zero_iff.1 h5
  subst e9 e5 e4 e3 e2 e1 e0
  exact ⟨_, _, _, _, _, _, rfl⟩

theorem moods_of_trod {H : Type} {enc : TypeId × Value → H} {W : World} {sp : Nat → Bool} {held : Bool} {fuel : Nat} {cs : List Value} {x : DataW H × List MemPlace} (h : DataW.trod enc Tryz.prog W 0 sp held fuel 31 cs = some x) :
    ∃ can index gb gl gc all nocan noguess, cs = [.int .u64 can, .bool index, .slice gb gl gc, .float .f64 all, .bool nocan, .bool noguess] := by
  obtain ⟨xs, n, hf, _, hl, hn, hel⟩ := DataW.trod_struct Tryz.underlying31 h
  have c31 : Tryz.prog.cellsOf 31 = 6 := by kernel_rfl
  have c27 : Tryz.prog.cellsOf 27 = 1 := by kernel_rfl
  have c28 : Tryz.prog.cellsOf 28 = 1 := by kernel_rfl
  have c29 : Tryz.prog.cellsOf 29 = 1 := by kernel_rfl
  have c4 : Tryz.prog.cellsOf 4 = 1 := by kernel_rfl
  rw [c31] at hl
  obtain ⟨a0, a1, a2, a3, a4, a5, rfl⟩ := list6 hl
  have hxs : ∀ i, i < 6 → ∃ y, xs[i]? = some y := fun i hi => ⟨xs[i]'(by rw [hn]; exact hi), by simp⟩
  obtain ⟨y0, h0⟩ := hxs 0 (by omega)
  obtain ⟨y1, h1⟩ := hxs 1 (by omega)
  obtain ⟨y2, h2⟩ := hxs 2 (by omega)
  obtain ⟨y3, h3⟩ := hxs 3 (by omega)
  obtain ⟨y4, h4⟩ := hxs 4 (by omega)
  obtain ⟨y5, h5⟩ := hxs 5 (by omega)
  have e0 : DataW.trod enc Tryz.prog W 0 sp held n 27 (([a0, a1, a2, a3, a4, a5].drop 0).take (Tryz.prog.cellsOf 27)) = xs[0]? := hel 0 _ rfl
  rw [c27] at e0
  replace e0 : DataW.trod enc Tryz.prog W 0 sp held n 27 [a0] = xs[0]? := e0
  rw [h0] at e0
  have e1 : DataW.trod enc Tryz.prog W 0 sp held n 4 (([a0, a1, a2, a3, a4, a5].drop 1).take (Tryz.prog.cellsOf 4)) = xs[1]? := hel 1 _ rfl
  rw [c4] at e1
  replace e1 : DataW.trod enc Tryz.prog W 0 sp held n 4 [a1] = xs[1]? := e1
  rw [h1] at e1
  have e2 : DataW.trod enc Tryz.prog W 0 sp held n 28 (([a0, a1, a2, a3, a4, a5].drop 2).take (Tryz.prog.cellsOf 28)) = xs[2]? := hel 2 _ rfl
  rw [c28] at e2
  replace e2 : DataW.trod enc Tryz.prog W 0 sp held n 28 [a2] = xs[2]? := e2
  rw [h2] at e2
  have e3 : DataW.trod enc Tryz.prog W 0 sp held n 29 (([a0, a1, a2, a3, a4, a5].drop 3).take (Tryz.prog.cellsOf 29)) = xs[3]? := hel 3 _ rfl
  rw [c29] at e3
  replace e3 : DataW.trod enc Tryz.prog W 0 sp held n 29 [a3] = xs[3]? := e3
  rw [h3] at e3
  have e4 : DataW.trod enc Tryz.prog W 0 sp held n 4 (([a0, a1, a2, a3, a4, a5].drop 4).take (Tryz.prog.cellsOf 4)) = xs[4]? := hel 4 _ rfl
  rw [c4] at e4
  replace e4 : DataW.trod enc Tryz.prog W 0 sp held n 4 [a4] = xs[4]? := e4
  rw [h4] at e4
  have e5 : DataW.trod enc Tryz.prog W 0 sp held n 4 (([a0, a1, a2, a3, a4, a5].drop 5).take (Tryz.prog.cellsOf 4)) = xs[5]? := hel 5 _ rfl
  rw [c4] at e5
  replace e5 : DataW.trod enc Tryz.prog W 0 sp held n 4 [a5] = xs[5]? := e5
  rw [h5] at e5
  obtain ⟨n0, p0, _⟩ := DataW.trod_int Tryz.underlying27 e0
  obtain ⟨b1, p1, _⟩ := DataW.trod_bool Tryz.underlying4 e1
  obtain ⟨g1, g2, g3, p2⟩ := slice_of_trod Tryz.underlying28 e2
  obtain ⟨f3, p3⟩ := trod_float Tryz.underlying29 e3
  obtain ⟨b4, p4, _⟩ := DataW.trod_bool Tryz.underlying4 e4
  obtain ⟨b5, p5, _⟩ := DataW.trod_bool Tryz.underlying4 e5
  cases p0; cases p1; cases p2; cases p3; cases p4; cases p5
  exact ⟨_, _, _, _, _, _, _, _, rfl⟩
end Go.Ev
