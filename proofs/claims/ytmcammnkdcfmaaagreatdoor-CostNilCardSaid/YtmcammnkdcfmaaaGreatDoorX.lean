/- Part X of the proof that CostNil answers true for every filter and every mood. Conditions: those that each theorem names. -/
import Derived.Test.YtmcammnkdcfmaaaGreatDoorEvE
import Derived.Test.YtmcammnkdcfmaaaGreatDoorK1
import Derived.Lib.Bytealg
import Derived.Laws.Externs
import Derived.Test.YtmcammnkdcfmaaaGreatDoorChecked
namespace Go.Ev

theorem byte_of {n : Nat} (h : n < 256) (b : UInt8) : Nat.beq b.toNat n = (b == (Int.ofNat n).toNat.toUInt8) := by
  rw [beq_iff]
  have e : ((Int.ofNat n).toNat.toUInt8).toNat = n := by simp [Nat.toUInt8, UInt8.toNat_ofNat']; omega
  by_cases hb : b.toNat = n
  · have : b = (Int.ofNat n).toNat.toUInt8 := UInt8.toNat_inj.1 (by rw [e, hb])
    rw [decide_eq_true hb]; symm; rw [beq_iff_eq]; exact this
  · have : b ≠ (Int.ofNat n).toNat.toUInt8 := fun h2 => hb (by rw [h2, e])
    rw [decide_eq_false hb]; symm; rw [beq_eq_false_iff_ne]; exact this

theorem countL_ok {n : Nat} (h : n < 256) : ∀ (l : List UInt8), countL n (l.map UInt8.toNat) = List.count (Int.ofNat n).toNat.toUInt8 l := by
  intro l
  induction l with
  | nil => rfl
  | cons b l ih =>
    simp only [List.map_cons, countL, byte_of h, List.count_cons, ih]
    cases (b == (Int.ofNat n).toNat.toUInt8) <;> simp
theorem indexL_ok {n : Nat} (h : n < 256) : ∀ (l : List UInt8) (i : Nat), indexL n (l.map UInt8.toNat) i = if Go.Lib.indexByte l (Int.ofNat n).toNat.toUInt8 = -1 then -1 else Go.Lib.indexByte l (Int.ofNat n).toNat.toUInt8 + i := by
  intro l
  induction l with
  | nil => intro i; rfl
  | cons b l ih =>
    intro i
    have hge := Go.Lib.indexByte_ge l (Int.ofNat n).toNat.toUInt8
    have hK : Go.Lib.indexByte (b :: l) (Int.ofNat n).toNat.toUInt8 = if b == (Int.ofNat n).toNat.toUInt8 then 0 else if Go.Lib.indexByte l (Int.ofNat n).toNat.toUInt8 == -1 then -1 else Go.Lib.indexByte l (Int.ofNat n).toNat.toUInt8 + 1 := rfl
    generalize Go.Lib.indexByte (b :: l) (Int.ofNat n).toNat.toUInt8 = K at hK ⊢
    simp only [List.map_cons, indexL, byte_of h, ih]
    generalize Go.Lib.indexByte l (Int.ofNat n).toNat.toUInt8 = k at hK hge ⊢
    by_cases hb : (b == (Int.ofNat n).toNat.toUInt8) = true
    · rw [if_pos hb] at hK
      subst hK
      rw [hb]
      simp
    · have hb' : (b == (Int.ofNat n).toNat.toUInt8) = false := by simpa using hb
      rw [if_neg hb] at hK
      rw [hb']
      simp only
      by_cases hk : k = -1
      · subst hk; simp at hK; simp [hK]
      · have : (k == -1) = false := by simpa using hk
        rw [this] at hK
        simp at hK
        rw [if_neg hk, if_neg (by omega), hK]
        push_cast
        omega
end Go.Ev

namespace Go.Ev
open Go.Proofs

theorem call199 (args : Array Value) (w : World) : (callFunc 199 args).run Tryz.prog w = ((Extern.BytealgCount.count args).run Tryz.prog w).andThen fun v w' => .ok (.value v) w' :=
  run_callFunc_extern Tryz.func199 (by kernel_rfl) (by kernel_rfl) (by kernel_rfl) (by kernel_rfl) args w
theorem call238 (args : Array Value) (w : World) : (callFunc 238 args).run Tryz.prog w = ((Extern.BytealgIndexByte.indexByte args).run Tryz.prog w).andThen fun v w' => .ok (.value v) w' :=
  run_callFunc_extern Tryz.func238 (by kernel_rfl) (by kernel_rfl) (by kernel_rfl) (by kernel_rfl) args w
theorem call44 (args : Array Value) (w : World) : (callFunc 44 args).run Tryz.prog w = ((Extern.MathFloatBits.float64frombits args).run Tryz.prog w).andThen fun v w' => .ok (.value v) w' :=
  run_callFunc_extern Tryz.func44 (by kernel_rfl) (by kernel_rfl) (by kernel_rfl) (by kernel_rfl) args w
end Go.Ev

namespace Go.Ev
open Go.Proofs

theorem vrs2 {ρ : Rho} {s : List Nat} {k : IntKind} {n : Int} {vs : Array Value} (h : VRs ρ [.str s, .int k n] vs.toList) : ∃ b, vs = #[.string b, .int k n] ∧ bytesOf b = s := by
  obtain ⟨l⟩ := vs
  simp only at h
  match l, h with
  | [x, y], h =>
    have h0 := h.2 0 _ x rfl rfl
    have h1 := h.2 1 _ y rfl rfl
    cases h0 with
    | str e => cases h1; exact ⟨_, rfl, e⟩
  | [], h => have := h.1; simp at this
  | [_], h => have := h.1; simp at this
  | _ :: _ :: _ :: _, h => have := h.1; simp at this

theorem vrs1 {ρ : Rho} {k : IntKind} {n : Int} {vs : Array Value} (h : VRs ρ [.int k n] vs.toList) : vs = #[.int k n] := by
  obtain ⟨l⟩ := vs
  simp only at h
  match l, h with
  | [y], h =>
    have h1 := h.2 0 _ y rfl rfl
    cases h1; rfl
  | [], h => have := h.1; simp at this
  | _ :: _ :: _, h => have := h.1; simp at this

theorem pureX_nice (g : List AV → Option AV) (T : Nat) (args : List AV) : Nice T (pureX g args) := by
  intro σ v σ1 _ h
  unfold pureX at h ⊢
  split at h
  · simp only [Option.some.injEq, Prod.mk.injEq] at h
    obtain ⟨rfl, rfl⟩ := h
    exact ⟨Ext.refl _ _, fun _ _ _ _ => rfl⟩
  · cases h

theorem x0_nice : ExtNice X0 := by
  intro f g hf T args
  unfold X0 at hf
  repeat' split at hf
  all_goals first | cases hf; exact pureX_nice _ _ _ | cases hf

theorem x0_old : ∀ f g, X0 f = some g → ∃ gp, g = pureX gp ∧ ∀ args v, gp args = some v → ∀ (ρ : Rho) (vs : Array Value) (w : World), VRs ρ args vs.toList → ∃ v', (callFunc f vs).run Tryz.prog w = .ok (.value v') w ∧ VR ρ v v' := by
  intro f g hf
  unfold X0 at hf
  split at hf
  · rename_i h1
    have h1 := Nat.eq_of_beq_eq_true h1
    subst h1
    cases hf
    refine ⟨_, rfl, fun args v hv ρ vs w hr => ?_⟩
    split at hv
    · rename_i s c
      split at hv
      · rename_i hlt
        have hlt : c < 256 := Nat.le_of_ble_eq_true hlt
        cases hv
        obtain ⟨b, rfl, rfl⟩ := vrs2 hr
        refine ⟨_, by rw [call199, Lib.run_countString]; rfl, ?_⟩
        have : countL c (bytesOf b) = Lib.countByte b.data.toList (Int.ofNat c).toNat.toUInt8 := countL_ok hlt _
        rw [this]
        exact .int _ _
      · cases hv
    · cases hv
  · split at hf
    · rename_i h1
      have h1 := Nat.eq_of_beq_eq_true h1
      subst h1
      cases hf
      refine ⟨_, rfl, fun args v hv ρ vs w hr => ?_⟩
      split at hv
      · rename_i s c
        split at hv
        · rename_i hlt
          have hlt : c < 256 := Nat.le_of_ble_eq_true hlt
          cases hv
          obtain ⟨b, rfl, rfl⟩ := vrs2 hr
          refine ⟨_, by rw [call238, Lib.run_indexByteString]; rfl, ?_⟩
          have : indexL c (bytesOf b) 0 = Lib.indexByte b.data.toList (Int.ofNat c).toNat.toUInt8 := by
            unfold bytesOf
            rw [indexL_ok hlt]
            split
            · rename_i e; exact e.symm
            · simp
          rw [this]
          exact .int _ _
        · cases hv
      · cases hv
    · split at hf
      · rename_i h1
        have h1 := Nat.eq_of_beq_eq_true h1
        subst h1
        cases hf
        refine ⟨_, rfl, fun args v hv ρ vs w hr => ?_⟩
        split at hv
        · rename_i n
          cases hv
          have := vrs1 hr
          subst this
          refine ⟨_, by rw [call44]; rfl, ?_⟩
          exact .flt _
        · cases hv
      · cases hf

theorem x0_ok {nG : Nat} {B : Bd} : ExtOk Tryz.prog nG B X0 := by
  intro f g hf args σ v σ' hv F k ρ w vs _ _ hR hr
  obtain ⟨gp, rfl, h⟩ := x0_old f g hf
  unfold pureX at hv
  split at hv
  · rename_i v2 h2
    simp only [Option.some.injEq, Prod.mk.injEq] at hv
    obtain ⟨rfl, rfl⟩ := hv
    obtain ⟨v', h3, h4⟩ := h args _ h2 ρ vs w hr
    exact .inl ⟨v', h3, v', ρ, rfl, h4, Rho.le_refl _, hR, Bel.refl _ _⟩
  · cases hv
end Go.Ev
