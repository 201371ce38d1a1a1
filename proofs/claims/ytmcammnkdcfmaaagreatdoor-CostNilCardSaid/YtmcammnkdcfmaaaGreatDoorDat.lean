/- Part Dat of the proof that CostNil answers true for every filter and every mood. Conditions: those that each theorem names. -/
import Derived.Test.YtmcammnkdcfmaaaGreatDoorSy
import Derived.LaidSub
import Derived.MakeChecks
namespace Go.Ev
noncomputable section --all

/-! ### Filters in memory -/

/-- A slice's cells, in blocks of ok; H: what these hold. -/
inductive SlC (H : Nat → Option Obj) (ok : Nat → Prop) : Value → Nat → List Value → Prop
  | nil : SlC H ok (.slice none 0 0) 0 []
  | emp (a : Addr) (cap : Nat) : SlC H ok (.slice (some a) 0 cap) 0 []
  | row {b off len cap : Nat} {arr : Array Value} {ty : TypeId} {z : Nat × Nat} {cells : List Value} : 0 < len → len ≤ 9223372036854775807 → ok b → H b = some (.cells arr ty z) → (arr.toList.drop off).take cells.length = cells →
      SlC H ok (.slice (some ⟨b, off, none⟩) len cap) len cells

inductive FT where
  | mk (kind : Int) (kids : List FT) (desc value start : List Nat) (mids : List (List Nat)) (fin rule : List Nat) (dn : Bool)

inductive IsF (H : Nat → Option Obj) (ok : Nat → Prop) : FT → List Value → Prop
  | mk {kind : Int} {kids : List FT} {mids : List (List Nat)} {db vb sb eb rb : ByteArray} {dn : Bool} {vk vm : Value} {ck cm : List Value} :
      SlC H ok vk kids.length ck → ck.length = kids.length * 9 → (∀ (i : Nat) (k : FT), kids[i]? = some k → IsF H ok k ((ck.drop (i * 9)).take 9)) →
      SlC H ok vm mids.length cm → cm.length = mids.length → (∀ (i : Nat) (x : List Nat), mids[i]? = some x → ∃ b : ByteArray, cm[i]? = some (Value.string b) ∧ bytesOf b = x) →
      IsF H ok (.mk kind kids (bytesOf db) (bytesOf vb) (bytesOf sb) mids (bytesOf eb) (bytesOf rb) dn) [.int .i8 kind, vk, .string db, .string vb, .string sb, vm, .string eb, .string rb, .bool dn]

theorem SlC.mono {H H' : Nat → Option Obj} {ok ok' : Nat → Prop} (h : ∀ b, ok b → ok' b ∧ H' b = H b) {v : Value} {n : Nat} {cs : List Value} (k : SlC H ok v n cs) : SlC H' ok' v n cs := by
  cases k with
  | nil => exact .nil
  | emp a cap => exact .emp a cap
  | row h1 h0 h2 h3 h4 => exact .row h1 h0 (h _ h2).1 ((h _ h2).2.trans h3) h4

theorem IsF.mono {H H' : Nat → Option Obj} {ok ok' : Nat → Prop} (h : ∀ b, ok b → ok' b ∧ H' b = H b) {t : FT} {cs : List Value} (k : IsF H ok t cs) : IsF H' ok' t cs := by
  induction k with
  | mk h1 h2 _ h4 h5 h6 ih => exact .mk (h1.mono h) h2 ih (h4.mono h) h5 h6

end --all
end Go.Ev

namespace Go.Ev

/-! ### From the form's readings -/

section
variable {H : Type} {enc : TypeId × Value → H} {P : Program} {W : World} {sp : Nat → Bool} {held : Bool}

theorem mapM_range_get {α : Type} {f : Nat → Option α} : ∀ (n : Nat) {l : List α}, (List.range n).mapM f = some l → l.length = n ∧ ∀ i, i < n → f i = l[i]? := by
  intro n l h
  refine ⟨by have := mapM_some_length h; simpa using this, fun i hi => ?_⟩
  exact mapM_some_get h i i (by simp [hi])

theorem cells_spec {a : Addr} {s : Nat} {c : List Value} (h : W.cells? 0 a s = some c) : c.length = s ∧ ∀ k, k < s → W.cell? (a.add k) = c[k]? := by
  unfold World.cells? at h
  rw [if_pos (Nat.zero_le _)] at h
  exact mapM_range_get s h

theorem cell_spec {a : Addr} {v : Value} (h : W.cell? a = some v) : ∃ arr ty z, W.heap[a.block]? = some (.cells arr ty z) ∧ a.spot = none ∧ arr[a.off]? = some v := by
  unfold World.cell? at h
  split at h
  · rename_i c t z hc
    split at h
    · cases h
    · rename_i hs
      refine ⟨c, t, z, hc, ?_, h⟩
      cases hsp : a.spot with
      | none => rfl
      | some x => rw [hsp] at hs; simp at hs
  · cases h

theorem slC_of_trod {t e : TypeId} {fuel : Nat} {v : Value} {x : DataW H × List MemPlace} {s : Nat} (ht : P.underlying t = some (.slice e)) (hs : P.cellsOf e = s) (h0 : 0 < s) (h : DataW.trod enc P W 0 sp held fuel t [v] = some x) :
    ∃ len cells, SlC (fun j => W.heap[j]?) (· < W.heap.size) v len cells ∧ cells.length = len * s ∧ ∀ i, i < len → ∃ n y, n < fuel ∧ DataW.trod enc P W 0 sp held n e ((cells.drop (i * s)).take s) = some y := by
  rcases DataW.trod_slice ht h with ⟨hv, _⟩ | ⟨a, len, cap, elems, rest, n, hf, hv, _, _, hlc, hcap, hlen, hel, _, _⟩
  · cases hv
    exact ⟨0, [], .nil, by simp, fun i hi => by omega⟩
  · cases hv
    rcases Nat.eq_zero_or_pos len with hz | hz
    · subst hz
      exact ⟨0, [], .emp a cap, by simp, fun i hi => by omega⟩
    · rw [hs] at hel
      -- each element's cells
      have hE : ∀ i, i < len → ∃ c y, W.cells? 0 (a.add (i * s)) s = some c ∧ DataW.trod enc P W 0 sp held n e c = some y := by
        intro i hi
        have := hel i hi
        cases hy : elems[i]? with
        | none => have := List.getElem?_eq_none_iff.1 hy; omega
        | some y =>
          rw [hy] at this
          simp only [Option.bind_eq_some_iff] at this
          obtain ⟨c, h1, h2⟩ := this
          exact ⟨c, y, h1, h2⟩
      have h00 : W.cell? a ≠ none := by
        obtain ⟨c, y, h1, _⟩ := hE 0 hz
        obtain ⟨h2, h3⟩ := cells_spec h1
        have := h3 0 h0
        simp only [Nat.zero_mul, Addr.add, if_true] at this
        rw [this]
        intro hn
        have := List.getElem?_eq_none_iff.1 hn
        omega
      obtain ⟨v0, hv0⟩ := Option.ne_none_iff_exists'.1 h00
      obtain ⟨arr, ty, z, hb, hsp, _⟩ := cell_spec hv0
      have hadd : ∀ i k, (a.add (i * s)).add k = ⟨a.block, a.off + (i * s + k), none⟩ := by
        intro i k
        obtain ⟨ab, ao, asp⟩ := a
        simp only at hsp
        subst hsp
        unfold Addr.add
        split <;> split <;> simp <;> omega
      have hget : ∀ i, i < len → ∃ c y, c.length = s ∧ DataW.trod enc P W 0 sp held n e c = some y ∧ ∀ k, k < s → arr[a.off + (i * s + k)]? = c[k]? := by
        intro i hi
        obtain ⟨c, y, h1, h2⟩ := hE i hi
        obtain ⟨h3, h4⟩ := cells_spec h1
        refine ⟨c, y, h3, h2, fun k hk => ?_⟩
        have := h4 k hk
        rw [hadd] at this
        rw [← this]
        unfold World.cell?
        simp [hb]
      have hsize : a.off + len * s ≤ arr.size := by
        obtain ⟨c, y, h1, _, h3⟩ := hget (len - 1) (by omega)
        have := h3 (s - 1) (by omega)
        have e1 : (len - 1) * s + (s - 1) + 1 = len * s := by
          have : len * s = (len - 1) * s + s := by
            conv => lhs; rw [show len = (len - 1) + 1 by omega, Nat.succ_mul]
          omega
        have e2 : c[s - 1]? ≠ none := by intro hn; have := List.getElem?_eq_none_iff.1 hn; omega
        rw [← this] at e2
        have : a.off + ((len - 1) * s + (s - 1)) < arr.size := by
          rcases Nat.lt_or_ge (a.off + ((len - 1) * s + (s - 1))) arr.size with h | h
          · exact h
          · exact absurd (Array.getElem?_eq_none h) e2
        omega
      have hl : ((arr.toList.drop a.off).take (len * s)).length = len * s := by simp; omega
      refine ⟨len, (arr.toList.drop a.off).take (len * s), ?_, hl, fun i hi => ?_⟩
      · have ha : a = ⟨a.block, a.off, none⟩ := by
          obtain ⟨ab, ao, asp⟩ := a
          simp only at hsp
          rw [hsp]
        rw [ha]
        refine .row hz (by unfold maxLen at hcap; omega) ?_ hb (by rw [hl])
        exact (Array.getElem?_eq_some_iff.1 hb).1
      · obtain ⟨c, y, h1, h2, h3⟩ := hget i hi
        refine ⟨n, y, by omega, ?_⟩
        have : (((arr.toList.drop a.off).take (len * s)).drop (i * s)).take s = c := by
          apply List.ext_getElem?
          intro k
          rw [List.getElem?_take]
          split
          · rename_i hk
            have hmul : i * s + s ≤ len * s := by
              have := Nat.mul_le_mul_right s (show i + 1 ≤ len by omega)
              rw [Nat.succ_mul] at this
              exact this
            rw [List.getElem?_drop, List.getElem?_take, if_pos (by omega), List.getElem?_drop, ← h3 k hk]
            simp
          · rename_i hk
            rw [List.getElem?_eq_none (by omega)]
        rw [this]
        exact h2

/-- A package-level variable that reads as a datum of plain cells. -/
theorem rowAt_of {n : String} {d : DataW Unit} {g : Nat} {t : TypeId} {k : Nat} {xs : List AV} {ρ : Rho} (h : laidMet P [(n, d)] W) (hg : P.globalNamed n = some g) (ht : (P.globals[g]?).map (·.type) = some t) (hf : flatA P k t d = some xs) (hne : 0 < xs.length) :
    ∃ (arr : Array Value) (ty : TypeId), W.heap[g]? = some (.cells arr ty (0, 0)) ∧ VRs ρ xs arr.toList := by
  obtain ⟨ps, ⟨g', t', cs, fuel, p, q, e1, e2, e3, e4, _, rfl⟩, _, hc⟩ := h
  rw [hg] at e1; cases e1
  rw [ht] at e2; cases e2
  have hv := flatA_ok (ρ := ρ) k fuel t d xs cs.toList (d, p) hf e4 rfl
  have hsz : 0 < cs.size := by have := hv.1; simp only [Array.length_toList] at this; omega
  have hm : MemPlace.cell g 0 ∈ MemPlace.row ⟨g, 0, none⟩ cs.size ++ p ++ q := by
    refine List.mem_append_left _ (List.mem_append_left _ ?_)
    unfold MemPlace.row
    exact List.mem_map.2 ⟨0, List.mem_range.2 hsz, rfl⟩
  obtain ⟨⟨c, ty, hb⟩, _⟩ := hc g 0 hm
  unfold World.var? at e3
  rw [hg] at e3
  simp only [Option.bind_some, hb, Option.some.injEq] at e3
  subst e3
  exact ⟨c, ty, hb, hv⟩

end
end Go.Ev
