/- Part EvB of the proof that CostNil answers true for every filter and every mood. Conditions: those that each theorem names. -/
import Derived.Test.YtmcammnkdcfmaaaGreatDoorEvA
namespace Go.Ev

section
variable {P : Program} {ρ : Rho} {base : Bd} {σ σ' : St} {w : World} {nid : Pos} {u : Bool} {v : AV}

/-! ### Numbers and texts -/

theorem intA_ok {op : BinOp} {k : IntKind} {x y : Int} (h : intA op k x y = some v) (hop : op ≠ .shl ∧ op ≠ .shr) (t : TypeId) (w : World) :
    ∃ z, (binOp op t (.int k x) (.int k y)).run P w = .ok z w ∧ VR ρ v z := by
  cases op <;> simp only [intA] at h <;> first | (exact absurd rfl hop.1) | (exact absurd rfl hop.2) | skip
  case add => cases h; exact ⟨_, by simp [binOp, Op.intArith, Sem.run_pure]; rfl, by rw [wrapA_eq]; exact .int _ _⟩
  case sub => cases h; exact ⟨_, by simp [binOp, Op.intArith, Sem.run_pure]; rfl, by rw [wrapA_eq]; exact .int _ _⟩
  case mul => cases h; exact ⟨_, by simp [binOp, Op.intArith, Sem.run_pure]; rfl, by rw [wrapA_eq]; exact .int _ _⟩
  case quo =>
    split at h
    · cases h
    · rename_i he; cases h
      rw [eqI_iff] at he
      have : y ≠ 0 := by simpa using he
      exact ⟨_, by simp [binOp, Op.intDiv, this, Sem.run_pure]; rfl, by rw [wrapA_eq]; exact .int _ _⟩
  case rem =>
    split at h
    · cases h
    · rename_i he; cases h
      rw [eqI_iff] at he
      have : y ≠ 0 := by simpa using he
      exact ⟨_, by simp [binOp, Op.intDiv, this, Sem.run_pure], .int _ _⟩
  case and => cases h; exact ⟨_, by simp [binOp, Op.intBits, Sem.run_pure], .int _ _⟩
  case or => cases h; exact ⟨_, by simp [binOp, Op.intBits, Sem.run_pure], .int _ _⟩
  case xor => cases h; exact ⟨_, by simp [binOp, Op.intBits, Sem.run_pure], .int _ _⟩
  case andNot => cases h; exact ⟨_, by simp [binOp, Op.intBits, Sem.run_pure], .int _ _⟩
  case eql => cases h; rw [eqI_iff]; exact ⟨_, by simp [binOp, Op.intCmp, Sem.run_pure], .bool _⟩
  case neq => cases h; rw [eqI_iff, bnot_eq]; exact ⟨.bool (x != y), by simp only [binOp, Op.intCmp, ne_eq, not_true, if_false, Sem.run_pure], .bool _⟩
  case lss => cases h; rw [ltI_iff]; exact ⟨_, by simp [binOp, Op.intCmp, Sem.run_pure], .bool _⟩
  case leq => cases h; rw [leI_iff]; exact ⟨_, by simp [binOp, Op.intCmp, Sem.run_pure], .bool _⟩
  case gtr => cases h; rw [ltI_iff]; exact ⟨_, by simp [binOp, Op.intCmp, Sem.run_pure], .bool _⟩
  case geq => cases h; rw [leI_iff]; exact ⟨_, by simp [binOp, Op.intCmp, Sem.run_pure], .bool _⟩

theorem toList_bytes (b : ByteArray) : b.toList.map UInt8.toNat = bytesOf b := by rw [ByteArray.toList_eq]; rfl

theorem bytesOf_append (a b : ByteArray) : bytesOf (a ++ b) = bytesOf a ++ bytesOf b := by
  simp [bytesOf]

theorem eqL_bytes (a b : ByteArray) : eqL (bytesOf a) (bytesOf b) = (a.toList == b.toList) := by
  have h : eqL (bytesOf a) (bytesOf b) = true ↔ a.toList = b.toList := by
    rw [eqL_iff]
    constructor
    · intro h; rw [bytesOf_inj h]
    · intro h; rw [ByteArray.toList_eq, ByteArray.toList_eq] at h; simp [bytesOf, h]
  cases hb : (a.toList == b.toList) with
  | true => exact h.2 (by simpa using hb)
  | false => rw [← Bool.not_eq_true]; intro e; rw [h.1 e] at hb; simp at hb

theorem ltL_of (a b : ByteArray) : ltL (bytesOf a) (bytesOf b) = Op.bytesLess a.toList b.toList := by
  rw [← toList_bytes, ← toList_bytes, ltL_bytes]

theorem bytesLess_asymm_eq (x y : List UInt8) : (Op.bytesLess x y || x == y) = !(Op.bytesLess y x) := by
  induction x generalizing y with
  | nil => cases y <;> rfl
  | cons a x ih =>
    cases y with
    | nil => rfl
    | cons b y =>
      have := ih y
      simp only [Op.bytesLess]
      by_cases h1 : a < b
      · have h2 : ¬ b < a := by rw [UInt8.lt_iff_toNat_lt] at *; omega
        have h3 : ¬ b = a := fun e => by subst e; rw [UInt8.lt_iff_toNat_lt] at h1; omega
        simp [h1, h2, h3]
      · by_cases h2 : b < a
        · have h3 : ¬ a = b := fun e => by subst e; exact h1 h2
          simp [h1, h2, h3]
        · have h3 : a = b := by rw [UInt8.lt_iff_toNat_lt] at *; exact UInt8.toNat_inj.1 (by omega)
          subst h3
          simp only [h1, decide_false, Bool.false_or, beq_self_eq_true, Bool.true_and]
          rw [← this]
          simp

theorem strA_ok {op : BinOp} {a b : ByteArray} (h : strA op (bytesOf a) (bytesOf b) = some v) (t : TypeId) (w : World) :
    ∃ z, (binOp op t (.string a) (.string b)).run P w = .ok z w ∧ VR ρ v z := by
  have hlt := ltL_of a b
  have hgt := ltL_of b a
  have heq := eqL_bytes a b
  have hle := bytesLess_asymm_eq a.toList b.toList
  cases op <;> simp only [strA] at h <;> first | (cases h; done) | skip
  case add =>
    split at h
    · rename_i hb
      cases h
      have hb := Nat.le_of_ble_eq_true hb
      simp only [bytesOf_length] at hb
      refine ⟨.string (a ++ b), ?_, .str (bytesOf_append a b)⟩
      have : ¬ ((a.size + b.size : Nat) : Int) > IntKind.i64.max := by
        have : IntKind.i64.max = 9223372036854775807 := by decide
        rw [this]; omega
      simp only [binOp, Op.stringOp, if_neg this, Sem.run_pure]
    · cases h
  case eql => cases h; rw [heq]; exact ⟨_, by simp only [binOp, Op.stringOp, Sem.run_pure], .bool _⟩
  case neq => cases h; rw [heq, bnot_eq]; exact ⟨_, by simp only [binOp, Op.stringOp, Sem.run_pure], .bool _⟩
  case lss => cases h; rw [hlt]; exact ⟨_, by simp only [binOp, Op.stringOp, Sem.run_pure], .bool _⟩
  case leq => cases h; rw [hgt, bnot_eq, ← hle]; exact ⟨_, by simp only [binOp, Op.stringOp, Sem.run_pure], .bool _⟩
  case gtr => cases h; rw [hgt]; refine ⟨.bool (Op.bytesLess b.toList a.toList), ?_, .bool _⟩; simp only [binOp, Op.stringOp, Sem.run_pure, hle, Bool.not_not]
  case geq => cases h; rw [hlt, bnot_eq]; exact ⟨_, by simp only [binOp, Op.stringOp, Sem.run_pure], .bool _⟩

theorem floA_ok {op : BinOp} {a b : Nat} (h : floA op a b = some v) (t : TypeId) (w : World) :
    ∃ z, (binOp op t (.float .f64 a) (.float .f64 b)).run P w = .ok z w ∧ VR ρ v z := by
  cases op <;> simp only [floA] at h <;> first | (cases h; done) | skip
  case add => split at h <;> first | (cases h; done) | skip
              rename_i r hr; cases h; exact ⟨_, by simp only [binOp, Op.floatArith, hr, Sem.run_bind, Sem.run_pure, Result.andThen, ne_eq, not_true, if_false], .flt _⟩
  case sub => split at h <;> first | (cases h; done) | skip
              rename_i r hr; cases h; exact ⟨_, by simp only [binOp, Op.floatArith, hr, Sem.run_bind, Sem.run_pure, Result.andThen, ne_eq, not_true, if_false], .flt _⟩
  case mul => split at h <;> first | (cases h; done) | skip
              rename_i r hr; cases h; exact ⟨_, by simp only [binOp, Op.floatArith, hr, Sem.run_bind, Sem.run_pure, Result.andThen, ne_eq, not_true, if_false], .flt _⟩
  case quo => split at h <;> first | (cases h; done) | skip
              rename_i r hr; cases h; exact ⟨_, by simp only [binOp, Op.floatArith, hr, Sem.run_bind, Sem.run_pure, Result.andThen, ne_eq, not_true, if_false], .flt _⟩
  all_goals (cases h; exact ⟨_, by simp only [binOp, Op.floatCmp, Sem.run_pure, ne_eq, not_true, if_false], .bool _⟩)

theorem nilEq_okD {t : TypeId} {lit : Bool} {x y : AV} {xv yv : Value} {r : Bool} (hx : VR ρ x xv) (hy : VR ρ y yv) (h : nilEq P t lit x y = some r) (d : Nat) (w : World) : (Op.equalIn (d + 1) t xv yv).run P w = .ok r w := by
  unfold nilEq at h
  unfold Op.equalIn
  split at h
  · rename_i hu
    split at h
    · cases h; cases hx; cases hy
      rename_i a b
      simp only [Sem.run_bind, run_underlying hu, Result.andThen, Sem.run_pure]
      cases a <;> cases b <;> rfl
    · cases h
  · rename_i e hu
    split at h <;> first | (cases h; done) | skip
    all_goals (cases h; cases hx; cases hy; simp [Sem.run_bind, run_underlying hu, Result.andThen, Sem.run_pure])
  · rename_i e hu
    split at h <;> first | (cases h; done) | skip
    all_goals (cases h; cases hx; cases hy; simp [Sem.run_bind, run_underlying hu, Result.andThen, Sem.run_pure])
  · rename_i k e hu
    split at h <;> first | (cases h; done) | skip
    all_goals (cases h; cases hx; cases hy; simp [Sem.run_bind, run_underlying hu, Result.andThen, Sem.run_pure])
  · rename_i a b c hu
    split at h <;> first | (cases h; done) | skip
    all_goals (cases h; cases hx; cases hy; simp only [Sem.run_bind, run_underlying hu, Result.andThen, Sem.run_pure])
  · rename_i ms hu
    split at h <;> first | (cases h; done) | skip
    · split at h
      · cases h; cases hx; cases hy; simp only [Sem.run_bind, run_underlying hu, Result.andThen, Sem.run_pure]
      · cases h
    · cases h; cases hx; cases hy; simp only [Sem.run_bind, run_underlying hu, Result.andThen, Sem.run_pure]
    · cases h; cases hx; cases hy; simp only [Sem.run_bind, run_underlying hu, Result.andThen, Sem.run_pure]
    · split at h
      · cases h
      · rename_i a b hne
        cases h; cases hx; cases hy
        rw [beq_iff] at hne
        have hne := of_decide_eq_false hne
        simp only [Sem.run_bind, run_underlying hu, Result.andThen, Sem.run_pure, ne_eq, hne, not_false_eq_true, if_true]
  · cases h

theorem nilEq_ok {t : TypeId} {lit : Bool} {x y : AV} {xv yv : Value} {r : Bool} (hx : VR ρ x xv) (hy : VR ρ y yv) (h : nilEq P t lit x y = some r) (w : World) : (Op.equal t xv yv).run P w = .ok r w :=
  nilEq_okD hx hy h 9999 w

theorem eqGuard_ok {op : BinOp} {t : TypeId} {x y : Operand} {xv yv : Value} (w : World) (h1 : ∀ cs, xv ≠ .agg cs) (h2 : xv = .nilIface → yv = .nilIface → isLit x = true ∨ isLit y = true) :
    (eqGuard op t x y xv yv).run P w = .ok () w := by
  have key : ∀ op', op' = .eql ∨ op' = .neq → (eqGuard op' t x y xv yv).run P w = .ok () w := by
    rintro op' (rfl | rfl)
    all_goals
      unfold eqGuard
      simp only [Bool.not_true, Bool.false_eq_true, if_false]
      cases xv <;> first
        | exact absurd rfl (h1 _)
        | exact Sem.run_pure _ _ _
        | skip
      cases yv <;> first
        | exact Sem.run_pure _ _ _
        | skip
      rcases h2 rfl rfl with h | h
      · cases x <;> first | (cases h; done) | exact Sem.run_pure _ _ _
      · cases y <;> first | (cases h; done) | skip
        cases x <;> exact Sem.run_pure _ _ _
  cases op <;> first | exact key _ (.inl rfl) | exact key _ (.inr rfl) | exact Sem.run_pure _ _ _

theorem binA_ok {op : BinOp} {t : TypeId} {x y : Operand} {xa ya : AV} {xv yv : Value} (hR : Rel base ρ σ w) (hx : VR ρ xa xv) (hy : VR ρ ya yv)
    (h : binA P op t (match isLit x with | true => true | false => isLit y) xa ya = some v) : OkV P base ρ w (do eqGuard op t x y xv yv; binOp op t xv yv) v σ := by
  have guard : (∀ cs, xv ≠ .agg cs) → (xv = .nilIface → yv = .nilIface → isLit x = true ∨ isLit y = true) → (∃ z, (binOp op t xv yv).run P w = .ok z w ∧ VR ρ v z) →
      OkV P base ρ w (do eqGuard op t x y xv yv; binOp op t xv yv) v σ := by
    rintro h1 h2 ⟨z, hz, hr⟩
    exact .pure hR (v := z) (by simp only [Sem.run_bind, eqGuard_ok w h1 h2, Result.andThen, hz]) hr
  unfold binA at h
  split at h
  · rename_i k a k' b
    cases hx; cases hy
    refine guard (by intro cs e; cases e) (by intro e; cases e) ?_
    split at h
    · split at h
      · rename_i n
        cases h
        exact ⟨_, by simp only [binOp, Op.shift]; rw [if_neg (by simp)]; simp only [Int.ofNat_eq_natCast, Int.toNat_natCast]; exact Sem.run_pure _ _ _, .int _ _⟩
      · cases h
    · split at h
      · rename_i n
        cases h
        exact ⟨_, by simp only [binOp, Op.shift]; rw [if_neg (by simp)]; simp only [Int.ofNat_eq_natCast, Int.toNat_natCast]; exact Sem.run_pure _ _ _, .int _ _⟩
      · cases h
    · rename_i op' h1 h2
      split at h
      · rename_i hk
        rw [eqK_iff] at hk
        subst hk
        exact intA_ok h ⟨fun e => h1 e, fun e => h2 e⟩ t w
      · cases h
  · rename_i a b
    cases hx with
    | str ha =>
      cases hy with
      | str hb =>
        subst ha; subst hb
        exact guard (by intro cs e; cases e) (by intro e; cases e) (strA_ok h t w)
  · cases hx; cases hy
    exact guard (by intro cs e; cases e) (by intro e; cases e) (floA_ok h t w)
  · have lits : xv = .nilIface → yv = .nilIface → ∀ r, nilEq P t (match isLit x with | true => true | false => isLit y) xa ya = some r → isLit x = true ∨ isLit y = true := by
      intro e1 e2 r hr
      subst e1; subst e2
      cases hx <;> cases hy <;> simp only [nilEq] at hr <;> (split at hr <;> first | (cases hr; done) | skip) <;> first | (cases hr; done) | skip
      split at hr
      · rename_i hl
        split at hl
        · rename_i h; exact .inl h
        · exact .inr hl
      · cases hr
    have noagg : ∀ r, nilEq P t (match isLit x with | true => true | false => isLit y) xa ya = some r → ∀ cs, xv ≠ .agg cs := by
      intro r hr cs e
      subst e
      cases hx with
      | agg _ _ => simp only [nilEq] at hr; split at hr <;> cases hr
      | und => simp only [nilEq] at hr; split at hr <;> cases hr
      | val => simp only [nilEq] at hr; split at hr <;> cases hr
    split at h
    · split at h
      · rename_i r hr
        cases h
        have he := nilEq_ok hx hy hr w
        refine guard (noagg r hr) (fun a b => lits a b r hr) ⟨.bool r, ?_, .bool _⟩
        cases hx <;> cases hy <;> first | (simp only [nilEq] at hr; split at hr <;> cases hr; done) | (simp only [binOp, Sem.run_bind, he, Result.andThen, Sem.run_pure]; done) | skip
      · cases h
    · split at h
      · rename_i r hr
        cases h
        have he := nilEq_ok hx hy hr w
        refine guard (noagg r hr) (fun a b => lits a b r hr) ⟨.bool (!r), ?_, by rw [bnot_eq]; exact .bool _⟩
        cases hx <;> cases hy <;> first | (simp only [nilEq] at hr; split at hr <;> cases hr; done) | (simp only [binOp, Sem.run_bind, he, Result.andThen, Sem.run_pure]; done) | skip
      · cases h
    · cases h

end
end Go.Ev

namespace Go.Ev

section
variable {P : Program} {ρ : Rho} {base : Bd} {σ σ' : St} {w : World} {nid : Pos} {u : Bool} {v : AV}

theorem unA_ok {op : UnOp} {x : AV} {xv : Value} (hR : Rel base ρ σ w) (hx : VR ρ x xv) (h : unA op x = some v) : OkV P base ρ w (Op.unary op xv) v σ := by
  unfold unA at h
  split at h
  · cases h; cases hx
    rename_i k n
    exact .pure hR (v := .int k (k.wrap (0 - n))) (by simp [Op.unary, Op.intArith, Sem.run_pure]) (by rw [wrapA_eq]; exact .int _ _)
  · cases h; cases hx
    rename_i b
    exact .pure hR (v := .bool !b) (by simp [Op.unary]) (by rw [bnot_eq]; exact .bool _)
  · cases h

/-! ### Bytes and texts -/

theorem byteCells_ok (b : ByteArray) : VRs ρ (byteCells (bytesOf b)) (b.data.map fun c => (.int .u8 c.toNat : Value)).toList := by
  refine ⟨by simp [byteCells, bytesOf], fun i x v hx hv => ?_⟩
  simp only [byteCells, bytesOf, List.getElem?_map, Option.map_map] at hx
  simp only [Array.toList_map, List.getElem?_map] at hv
  cases hb : b.data.toList[i]? with
  | none => rw [hb] at hx; cases hx
  | some c =>
    rw [hb] at hx hv
    simp only [Option.map_some, Option.some.injEq] at hx hv
    subst hx; subst hv
    exact .int _ _

theorem natsOf_ok : ∀ (xs : List AV) (vs : List Value) (l : List Nat), VRs ρ xs vs → natsOf xs = some l → vs = (l.map Int.ofNat).map (Value.int .u8) ∧ ∀ n, n ∈ l → n ≤ 255 := by
  intro xs
  induction xs with
  | nil =>
    intro vs l hr h
    cases h
    cases vs with
    | nil => exact ⟨rfl, fun n hn => by cases hn⟩
    | cons v vs => have := hr.1; simp at this
  | cons x xs ih =>
    intro vs l hr h
    cases vs with
    | nil => have := hr.1; simp at this
    | cons v vs =>
      have h0 := hr.2 0 x v rfl rfl
      have ht : VRs ρ xs vs := ⟨by have := hr.1; simpa using this, fun i y u a b => hr.2 (i + 1) y u (by simpa using a) (by simpa using b)⟩
      unfold natsOf at h
      split at h
      · rename_i e; cases e
      · rename_i n r e
        simp only [List.cons.injEq] at e
        obtain ⟨rfl, rfl⟩ := e
        split at h
        · rename_i hle
          split at h
          · rename_i l' hl
            cases h
            obtain ⟨h1, h2⟩ := ih vs l' ht hl
            cases h0
            refine ⟨by rw [h1]; rfl, fun m hm => ?_⟩
            cases hm with
            | head => exact Nat.le_of_ble_eq_true hle
            | tail _ hm => exact h2 m hm
          · cases h
        · cases h
      · cases h

theorem bytesOf_push : ∀ (l : List Nat) (s : ByteArray), (∀ n, n ∈ l → n ≤ 255) → bytesOf ((l.map Int.ofNat).foldl (fun r n => r.push (UInt8.ofNat n.toNat)) s) = bytesOf s ++ l := by
  intro l
  induction l with
  | nil => intro s _; simp
  | cons n l ih =>
    intro s h
    have hn := h n (List.mem_cons_self ..)
    simp only [List.map_cons, List.foldl_cons]
    rw [ih _ (fun m hm => h m (List.mem_cons_of_mem _ hm))]
    have : bytesOf (s.push (UInt8.ofNat (Int.ofNat n).toNat)) = bytesOf s ++ [n] := by
      simp only [bytesOf, ByteArray.push, Array.toList_push, List.map_append, List.map_cons, List.map_nil, Int.ofNat_eq_natCast, Int.toNat_natCast, UInt8.toNat_ofNat']
      rw [Nat.mod_eq_of_lt (by omega)]
    rw [this]
    simp

theorem slice_cap {b : Pos} {l : Loc} {o len cap : Nat} {opn : Bool} : (if opn = true then cap + l.extra else cap) = (if opn = true then cap + l.extra else cap) := rfl

theorem convA_ok {s d : TypeId} {x : AV} {xv : Value} (hR : Rel base ρ σ w) (hx : VR ρ x xv) (h : (convA P s d x).run nid σ = some (v, σ', u)) : OkV P base ρ w (convert s d xv) v σ' := by
  unfold convA at h
  split at h
  · rename_i k n
    cases hx
    split at h
    · rename_i ds k' hs hd
      obtain ⟨rfl, rfl⟩ := run_val h
      refine .pure hR (v := .int k' (k'.wrap n)) ?_ (by rw [wrapA_eq]; exact .int _ _)
      simp only [convert, Sem.run_bind, run_underlying hs, run_underlying hd, Result.andThen, Conv.intToInt, Sem.run_pure]
    · rename_i ds hs hd
      obtain ⟨rfl, rfl⟩ := run_val h
      refine .pure hR (v := .float .f64 (FloatKind.f64.nearest n)) ?_ (.flt _)
      simp only [convert, Sem.run_bind, run_underlying hs, run_underlying hd, Result.andThen, Conv.intToFloat, Sem.run_pure]
    · exact (run_fail h).elim
  · rename_i bs
    cases hx with
    | str hb =>
      rename_i b
      subst hb
      split at h
      · rename_i hs hd
        obtain ⟨rfl, rfl⟩ := run_val h
        refine .pure hR (v := .string b) ?_ (.str rfl)
        simp only [convert, Sem.run_bind, run_underlying hs, run_underlying hd, Result.andThen, Sem.run_pure]
      · rename_i e hs hd
        split at h
        · rename_i he
          obtain ⟨rfl, rfl, hn⟩ := run_new h
          have hrun := run_bytes_of_string (P := P) w s d e b hs hd he
          have hge := grownCap_ge w b.size 0 e
          generalize grownCap w b.size 0 e = cap at hrun hge
          have hR' : Rel base ρ σ w.drew := hR.sameHeap rfl
          have hbytes : (b.data.map fun c => (.int .u8 c.toNat : Value)).size = b.size := by rw [Array.size_map]; rfl
          have hsz : (bytesRow b cap).size = cap := by simp only [bytesRow, Array.size_append, hbytes, Array.size_replicate]; omega
          have h4 := rel_newRow hR' hn (byteCells_ok b) e 1 true (cap - b.size) ((bytesRow b cap).size, (bytesRow b cap).size + 1) (List.replicate (cap - b.size) (.int .u8 0)) (fun h => by cases h) (by simp)
            (by
              intro j hj ⟨h1, _⟩
              rw [hsz] at h1
              simp only [Array.length_toList, hbytes, List.length_replicate] at hj
              omega)
          have e1 : ((b.data.map fun (c : UInt8) => (Value.int .u8 c.toNat : Value)).toList ++ List.replicate (cap - b.size) (Value.int .u8 0)).toArray = bytesRow b cap := by
            apply Array.ext'
            simp [bytesRow]
          rw [e1] at h4
          have hv : VR (ρ.upd nid ⟨w.heap.size, 0, cap - b.size⟩) (.sl nid 0 b.size b.size true) (.slice (some ⟨w.heap.size, 0, none⟩) b.size cap) := by
            have := VR.sl (o := 0) (len := b.size) (cap := b.size) (opn := true) (Rho.upd_same (ρ := ρ) (b := nid) (l := ⟨w.heap.size, 0, cap - b.size⟩))
            simp only [if_true, Nat.add_zero] at this
            rwa [show b.size + (cap - b.size) = cap by omega] at this
          rw [bytesOf_length]
          exact ⟨_, _, _, hrun, hv, Rho.le_upd (hR.unset hn), h4, ((Bel.refl _ _).drew).alloc hR.le _⟩
        · exact (run_fail h).elim
      · exact (run_fail h).elim
  · cases hx
    split at h
    · rename_i e hs hd
      split at h
      · rename_i he
        obtain ⟨rfl, rfl⟩ := run_val h
        refine .pure hR (v := .string .empty) ?_ (.str rfl)
        simp only [convert, Sem.run_bind, run_underlying hs, run_underlying hd, run_underlying he, Result.andThen, Conv.bytesToString, Sem.run_pure]
      · exact (run_fail h).elim
    · exact (run_fail h).elim
  · rename_i b o len cap opn
    cases hx with
    | sl hl =>
      rename_i l
      split at h
      · rename_i e hs hd
        split at h
        · rename_i he
          obtain ⟨y, hy, hk, rfl⟩ := run_read h
          split at hk
          · split at hk
            · rename_i hle
              split at hk
              · rename_i ns hns
                cases hk
                obtain ⟨vs, hrun, hr⟩ := row_loads (P := P) (hR.at_ hy hl) (Nat.le_of_ble_eq_true hle)
                obtain ⟨h1, h2⟩ := natsOf_ok _ _ _ hr hns
                rw [h1] at hrun
                refine .pure hR (v := _) ?_ (.str (bytesOf_push ns ByteArray.empty h2))
                simp only [convert, Sem.run_bind, run_underlying hs, run_underlying hd, run_underlying he, Result.andThen]
                exact run_bytesToString w _ _ _ _ hrun
              · cases hk
            · cases hk
          · cases hk
        · exact (run_fail h).elim
      · exact (run_fail h).elim
  · exact (run_fail h).elim

end
end Go.Ev

namespace Go.Ev

section
variable {P : Program} {ρ : Rho} {base : Bd} {σ σ' : St} {w : World} {nid : Pos} {u : Bool} {v : AV}

/-! ### Slicing -/

def optR (ρ : Rho) (x : Option AV) (v : Option Value) : Prop := match x, v with
  | none, none => True
  | some x, some v => VR ρ x v
  | _, _ => False

theorem run_bound {k : IntKind} {n y : Nat} {code : BoundsCode} (h : n ≤ y) (w : World) : (Instr.sliceBound (.int k (Int.ofNat n)) y code).run P w = .ok n w := by
  have := run_sliceBound (P := P) w k (Int.ofNat n) y code (by simp) (by simp; omega)
  simpa using this

theorem natOr_ok {d n : Nat} {x : Option AV} {v : Option Value} (hr : optR ρ x v) (h : natOr d x = some n) : (v = none ∧ n = d) ∨ ∃ k, v = some (.int k (Int.ofNat n)) := by
  unfold natOr at h
  split at h
  · cases h
    cases v with
    | none => exact .inl ⟨rfl, rfl⟩
    | some v => exact hr.elim
  · rename_i k m
    cases h
    cases v with
    | none => exact hr.elim
    | some v =>
      have hr : VR ρ (.int k (Int.ofNat n)) v := hr
      cases hr
      exact .inr ⟨_, rfl⟩
  · cases h

theorem run_bounds {isS : Bool} {len cap h l : Nat} {lo hi : Option AV} {lov hiv : Option Value} (h1 : optR ρ lo lov) (h2 : optR ρ hi hiv) (hh : natOr len hi = some h) (hl : natOr 0 lo = some l) (c1 : h ≤ cap) (c2 : l ≤ h) (w : World) :
    (Instr.sliceBounds isS len cap lov hiv none).run P w = .ok (l, h, cap) w := by
  unfold Instr.sliceBounds
  rcases natOr_ok h2 hh with ⟨rfl, rfl⟩ | ⟨k, rfl⟩
  · rcases natOr_ok h1 hl with ⟨rfl, rfl⟩ | ⟨k', rfl⟩
    · simp only [Sem.run_bind, Sem.run_pure, Result.andThen]
    · simp only [Sem.run_bind, Sem.run_pure, Result.andThen, Option.isSome_none, Bool.false_eq_true, if_false, run_bound c2]
  · rcases natOr_ok h1 hl with ⟨rfl, rfl⟩ | ⟨k', rfl⟩
    · simp only [Sem.run_bind, Sem.run_pure, Result.andThen, run_bound c1]
    · simp only [Sem.run_bind, Sem.run_pure, Result.andThen, Option.isSome_none, Bool.false_eq_true, if_false, run_bound c1, run_bound c2]

theorem run_bounds3 {isS : Bool} {len cap m h l : Nat} {lo hi mx : Option AV} {lov hiv mxv : Option Value} (h1 : optR ρ lo lov) (h2 : optR ρ hi hiv) (h3 : optR ρ mx mxv) (e2 : hi.isSome = true) (e3 : mx.isSome = true)
    (hm : natOr 0 mx = some m) (hh : natOr 0 hi = some h) (hl : natOr 0 lo = some l) (c0 : m ≤ cap) (c1 : h ≤ m) (c2 : l ≤ h) (w : World) :
    (Instr.sliceBounds isS len cap lov hiv mxv).run P w = .ok (l, h, m) w := by
  unfold Instr.sliceBounds
  rcases natOr_ok h3 hm with ⟨rfl, rfl⟩ | ⟨k, rfl⟩
  · cases mx with
    | none => cases e3
    | some x => exact h3.elim
  · rcases natOr_ok h2 hh with ⟨rfl, rfl⟩ | ⟨k, rfl⟩
    · cases hi with
      | none => cases e2
      | some x => exact h2.elim
    · rcases natOr_ok h1 hl with ⟨rfl, rfl⟩ | ⟨k', rfl⟩
      · simp only [Sem.run_bind, Sem.run_pure, Result.andThen, run_bound c0, run_bound c1]
      · simp only [Sem.run_bind, Sem.run_pure, Result.andThen, run_bound c0, run_bound c1, run_bound c2]

theorem bytesOf_extract (b : ByteArray) (l h : Nat) (c2 : l ≤ h) : bytesOf (b.extract l h) = ((bytesOf b).drop l).take (h - l) := by
  unfold bytesOf
  rw [ByteArray.data_extract, Array.toList_extract]
  simp [List.extract, List.map_take, List.map_drop]

theorem sliceA_ok {t : TypeId} {x : AV} {xv : Value} {lo hi mx : Option AV} {lov hiv mxv : Option Value} (hR : Rel base ρ σ w) (hx : VR ρ x xv) (h1 : optR ρ lo lov) (h2 : optR ρ hi hiv) (h3 : optR ρ mx mxv)
    (h : sliceA P t x lo hi mx = some v) : OkV P base ρ w (Instr.sliceAt t xv lov hiv mxv) v σ := by
  unfold sliceA at h
  split at h
  · rename_i s hu
    cases hx with
    | str hb =>
      rename_i b
      subst hb
      split at h
      · cases h
      · split at h
        · cases h
        · rename_i hn hh
          split at h
          · cases h
          · rename_i ln hl
            split at h
            · rename_i c1 c2
              cases h
              have c1 := Nat.le_of_ble_eq_true c1
              have c2 := Nat.le_of_ble_eq_true c2
              rw [bytesOf_length] at c1 hh
              cases mxv with
              | some _ => exact h3.elim
              | none =>
                refine .pure hR (v := .string (b.extract ln hn)) ?_ (.str (bytesOf_extract b ln hn c2))
                unfold Instr.sliceAt
                simp only [Sem.run_bind, run_underlying hu, Result.andThen, Instr.slice, Option.isSome_none, Bool.false_eq_true, if_false, Sem.run_pure, run_bounds h1 h2 hh hl c1 c2]
            · cases h
  · rename_i e hu
    cases hx
    split at h
    · rename_i sz hgood hh hl hm hs
      cases h
      refine .pure hR (v := .slice none 0 0) ?_ .nils
      unfold Instr.sliceAt
      simp only [Sem.run_bind, run_underlying hu, Result.andThen, Instr.slice]
      have bd : (Instr.sliceBounds true 0 0 lov hiv mxv).run P w = .ok (0, 0, 0) w := by
        cases mx with
        | none =>
          cases mxv with
          | some _ => exact h3.elim
          | none => exact run_bounds h1 h2 hh hl (Nat.le_refl _) (Nat.le_refl _) w
        | some y => exact run_bounds3 h1 h2 h3 hgood rfl hm hh hl (Nat.le_refl _) (Nat.le_refl _) (Nat.le_refl _) w
      simp only [bd, (sizeT_ok hs).2, Sem.run_pure, if_true]
    · cases h
  · rename_i e hu
    cases hx with
    | sle ad c =>
      split at h
      · rename_i sz hh hl hs
        cases h
        cases mxv with
        | some _ => exact h3.elim
        | none =>
          have bd := run_bounds (P := P) (isS := true) (cap := c) h1 h2 hh hl (Nat.zero_le _) (Nat.le_refl _) w
          refine .pure hR (v := .slice (if c = 0 then some ad else some (ad.add (0 * sz))) 0 c) ?_ (by split <;> exact .sle _ _)
          unfold Instr.sliceAt
          simp only [Sem.run_bind, run_underlying hu, Result.andThen, Instr.slice, bd, (sizeT_ok hs).2, Sem.run_pure, Option.map_some, Nat.sub_zero]
      · cases h
  · rename_i e b o len cap opn hu
    cases hx with
    | sl hl0 =>
      rename_i l
      split at h
      · split at h
        · cases h
        · rename_i hn hh
          split at h
          · rename_i ln sz hl hs
            split at h
            · rename_i c1 c2
              have c1 := Nat.le_of_ble_eq_true c1
              have c2 := Nat.le_of_ble_eq_true c2
              cases mxv with
              | some _ => exact h3.elim
              | none =>
                have hcap : hn ≤ (if opn = true then cap + l.extra else cap) := by split <;> omega
                have bd := run_bounds (P := P) (isS := true) h1 h2 hh hl hcap c2 w
                have run : (Instr.sliceAt t (.slice (some ⟨l.blk, l.off + o, none⟩) len (if opn = true then cap + l.extra else cap)) lov hiv none).run P w =
                    .ok (.slice (if (if opn = true then cap + l.extra else cap) = ln then some ⟨l.blk, l.off + o, none⟩ else some ⟨l.blk, l.off + o + ln * sz, none⟩) (hn - ln) ((if opn = true then cap + l.extra else cap) - ln)) w := by
                  unfold Instr.sliceAt
                  simp only [Sem.run_bind, run_underlying hu, Result.andThen, Instr.slice, bd, (sizeT_ok hs).2, Sem.run_pure, Option.map_some, addr_add]
                split at h
                · rename_i hc
                  have hc := Nat.eq_of_beq_eq_true hc
                  split at h
                  · cases h
                    have hz : hn - ln = 0 := by omega
                    rw [hz] at run
                    refine .pure hR run ?_
                    by_cases hq : (if true = true then cap + l.extra else cap) = ln
                    · rw [if_pos hq]; exact .sle _ _
                    · rw [if_neg hq]; exact .sle _ _
                  · cases h
                    exact .pure hR (v := .slice (some ⟨l.blk, l.off + o, none⟩) (hn - ln) 0) (by simpa [hc] using run) (by have := VR.sl (o := o) (len := hn - ln) (cap := 0) (opn := false) hl0; simpa using this)
                · rename_i hc
                  cases h
                  have hc : cap ≠ ln := fun e => by rw [e, beq_iff] at hc; simp at hc
                  have hne : ¬ (if opn = true then cap + l.extra else cap) = ln := by split <;> omega
                  rw [if_neg hne] at run
                  refine .pure hR run ?_
                  have := VR.sl (o := o + ln * sz) (len := hn - ln) (cap := cap - ln) (opn := opn) hl0
                  have e1 : (if opn = true then cap - ln + l.extra else cap - ln) = (if opn = true then cap + l.extra else cap) - ln := by split <;> omega
                  rw [e1, ← Nat.add_assoc] at this
                  exact this
            · cases h
          · cases h
      · rename_i m0
        split at h
        · rename_i mn hv' hm
          split at h
          · rename_i hn ln sz hh hl hs
            split at h
            · rename_i c0 c1 c2
              have c0 := Nat.le_of_ble_eq_true c0
              have c1 := Nat.le_of_ble_eq_true c1
              have c2 := Nat.le_of_ble_eq_true c2
              have hcap : mn ≤ (if opn = true then cap + l.extra else cap) := by split <;> omega
              have bd := run_bounds3 (P := P) (isS := true) (len := len) h1 h2 h3 rfl rfl hm hh hl hcap c1 c2 w
              have run : (Instr.sliceAt t (.slice (some ⟨l.blk, l.off + o, none⟩) len (if opn = true then cap + l.extra else cap)) lov hiv mxv).run P w =
                  .ok (.slice (if mn = ln then some ⟨l.blk, l.off + o, none⟩ else some ⟨l.blk, l.off + o + ln * sz, none⟩) (hn - ln) (mn - ln)) w := by
                unfold Instr.sliceAt
                simp only [Sem.run_bind, run_underlying hu, Result.andThen, Instr.slice, bd, (sizeT_ok hs).2, Sem.run_pure, Option.map_some, addr_add]
              split at h
              · rename_i hc
                have hc := Nat.eq_of_beq_eq_true hc
                cases h
                rw [if_pos hc, hc, show ln - ln = 0 by omega] at run
                exact .pure hR run (by have := VR.sl (o := o) (len := hn - ln) (cap := 0) (opn := false) hl0; simpa using this)
              · rename_i hc
                cases h
                have hc : mn ≠ ln := fun e => by rw [e, beq_iff] at hc; simp at hc
                rw [if_neg hc] at run
                refine .pure hR run ?_
                have := VR.sl (o := o + ln * sz) (len := hn - ln) (cap := mn - ln) (opn := false) hl0
                rw [← Nat.add_assoc] at this
                simpa using this
            · cases h
          · cases h
        · cases h
  · rename_i n e b o hu
    cases hx with
    | ptr hl0 =>
      rename_i l
      split at h
      · cases h
      · split at h
        · cases h
        · rename_i hn hh
          split at h
          · rename_i ln sz hl hs
            split at h
            · rename_i c1 c2
              have c1 := Nat.le_of_ble_eq_true c1
              have c2 := Nat.le_of_ble_eq_true c2
              cases mxv with
              | some _ => exact h3.elim
              | none =>
                have bd := run_bounds (P := P) (isS := false) h1 h2 hh hl c1 c2 w
                have run : (Instr.sliceAt t (.pointer (some ⟨l.blk, l.off + o, none⟩)) lov hiv none).run P w =
                    .ok (.slice (some (if n = ln then ⟨l.blk, l.off + o, none⟩ else ⟨l.blk, l.off + o + ln * sz, none⟩)) (hn - ln) (n - ln)) w := by
                  unfold Instr.sliceAt
                  simp only [Sem.run_bind, run_underlying hu, Result.andThen, Instr.sureAddr, bd, (sizeT_ok hs).2, Sem.run_pure, addr_add]
                split at h
                · rename_i hc
                  have hc := Nat.eq_of_beq_eq_true hc
                  cases h
                  rw [if_pos hc, hc, show ln - ln = 0 by omega] at run
                  exact .pure hR run (by have := VR.sl (o := o) (len := hn - ln) (cap := 0) (opn := false) hl0; simpa using this)
                · rename_i hc
                  cases h
                  have hc : n ≠ ln := fun e => by rw [e, beq_iff] at hc; simp at hc
                  rw [if_neg hc] at run
                  refine .pure hR run ?_
                  have := VR.sl (o := o + ln * sz) (len := hn - ln) (cap := n - ln) (opn := false) hl0
                  rw [← Nat.add_assoc] at this
                  simpa using this
            · cases h
          · cases h
  · cases h

end
end Go.Ev

namespace Go.Ev

section
variable {P : Program} {ρ : Rho} {base : Bd} {σ σ' : St} {w : World} {nid : Pos} {u : Bool} {v : AV}

/-! ### Maps -/

theorem ba_beq (a b : ByteArray) : (a == b) = (a.data == b.data) := rfl
theorem ba_beq_iff (a b : ByteArray) : (a == b) = true ↔ a = b := by
  rw [ba_beq]
  cases a; cases b
  simp

theorem eqKey_ok {kd : TypeDesc} {x y : AV} {xv yv : Value} {r : Bool} (hx : VR ρ x xv) (hy : VR ρ y yv) (hk : (∃ k, kd = .int k ∧ ∃ j n, x = .int j n) ∨ (kd = .string ∧ ∃ s, x = .str s)) (h : eqKey x y = some r) :
    Instr.sameNow kd xv yv = some r := by
  unfold eqKey at h
  split at h
  · rename_i k a k' b
    cases hx; cases hy
    split at h
    · rename_i he
      rw [eqK_iff] at he
      subst he
      cases h
      rcases hk with ⟨kk, rfl, _⟩ | ⟨_, s, hs⟩
      · simp [Instr.sameNow, eqI_iff]
      · cases hs
    · cases h
  · rename_i a b
    cases hx with
    | str h1 =>
      cases hy with
      | str h2 =>
        subst h1; subst h2
        cases h
        rcases hk with ⟨kk, _, j, n, hs⟩ | ⟨rfl, _⟩
        · cases hs
        · rw [eqL_bytes]
          rename_i b1 b2 _
          simp only [Instr.sameNow, Option.some.injEq]
          cases hb : (b1 == b2) with
          | true =>
            have : b1 = b2 := (ba_beq_iff _ _).1 hb
            subst this; simp
          | false =>
            have : b1 ≠ b2 := by intro e; rw [(ba_beq_iff _ _).2 e] at hb; cases hb
            symm
            rw [← Bool.not_eq_true]
            intro e
            have e : b1.toList = b2.toList := by simpa using e
            exact this (bytesOf_inj (by rw [← toList_bytes, ← toList_bytes, e]))
  · cases h

/-- The entries of an abstract map beside those of a map. -/
def MRs (ρ : Rho) (es : List (AV × AV × Nat)) (es' : List MapEntry) : Prop := es.length = es'.length ∧ ∀ (i : Nat) (k v : AV) (n : Nat) (e : MapEntry), es[i]? = some (k, v, n) → es'[i]? = some e → VR ρ k e.key ∧ VR ρ v e.val ∧ e.born = n

theorem findA_ok {kd : TypeDesc} {x : AV} {xv : Value} (hx : VR ρ x xv) (hk : (∃ k, kd = .int k ∧ ∃ j n, x = .int j n) ∨ (kd = .string ∧ ∃ s, x = .str s)) : ∀ (es : List (AV × AV × Nat)) (es' : List MapEntry) (i : Nat) (r : Option (Nat × AV)), MRs ρ es es' →
    findA x es i = some r → match r with
      | none => Instr.findNow kd xv es' i = some none
      | some (j, v) => i ≤ j ∧ ∃ k n e, es[j - i]? = some (k, v, n) ∧ es'[j - i]? = some e ∧ Instr.findNow kd xv es' i = some (some (j, e.val)) ∧ eqKey x k = some true := by
  intro es
  induction es with
  | nil =>
    intro es' i r hm h
    cases h
    cases es' with
    | nil => rfl
    | cons e es' => have := hm.1; simp at this
  | cons c es ih =>
    intro es' i r hm h
    obtain ⟨k, z, n⟩ := c
    cases es' with
    | nil => have := hm.1; simp at this
    | cons e es' =>
      have h0 := hm.2 0 k z n e rfl rfl
      have ht : MRs ρ es es' := ⟨by have := hm.1; simpa using this, fun i k v n e a b => hm.2 (i + 1) k v n e (by simpa using a) (by simpa using b)⟩
      unfold findA at h
      split at h
      · rename_i he
        cases h
        have := eqKey_ok hx h0.1 hk he
        refine ⟨Nat.le_refl _, k, n, e, by simp, by simp, ?_, he⟩
        simp only [Instr.findNow, this]
      · rename_i he
        have hs := eqKey_ok hx h0.1 hk he
        have := ih es' (i + 1) r ht h
        cases r with
        | none => simp only [Instr.findNow, hs]; exact this
        | some p =>
          obtain ⟨j, z'⟩ := p
          obtain ⟨hij, k', n', e', g1, g2, g3, g4⟩ := this
          refine ⟨by omega, k', n', e', ?_, ?_, ?_, g4⟩
          · rw [show j - i = (j - (i + 1)) + 1 by omega]; simpa using g1
          · rw [show j - i = (j - (i + 1)) + 1 by omega]; simpa using g2
          · simp only [Instr.findNow, hs]; exact g3
      · cases h

theorem plainKey_ok {t : TypeId} {x : AV} {xv : Value} (hx : VR ρ x xv) (h : plainKey P t x = true) : ∃ kd, P.underlying t = some kd ∧ ((∃ k, kd = .int k ∧ ∃ j n, x = .int j n) ∨ (kd = .string ∧ ∃ s, x = .str s)) ∧
    (∀ b n w, (Instr.checkKey b (n + 1) t xv).run P w = .ok () w) := by
  unfold plainKey at h
  split at h
  · rename_i k j n hu
    refine ⟨_, hu, .inl ⟨k, rfl, j, n, rfl⟩, fun b m w => ?_⟩
    cases hx
    unfold Instr.checkKey
    simp only [Sem.run_bind, run_underlying hu, Result.andThen, Sem.run_pure]
  · rename_i s hu
    refine ⟨_, hu, .inr ⟨rfl, s, rfl⟩, fun b m w => ?_⟩
    cases hx
    unfold Instr.checkKey
    simp only [Sem.run_bind, run_underlying hu, Result.andThen, Sem.run_pure]
  · cases h

theorem run_find {t : TypeId} {kd : TypeDesc} (hu : P.underlying t = some kd) {xv : Value} {es : List MapEntry} {r : Option (Nat × Value)} (h : Instr.findNow kd xv es 0 = some r) (w : World) : (Instr.findKey t xv es).run P w = .ok r w := by
  unfold Instr.findKey
  simp only [Sem.run_bind, run_underlying hu, Result.andThen, h, Sem.run_pure]

theorem run_getObj_at {r : Nat} {o : Obj} {w : World} (h : w.heap[r]? = some o) (hc : ∀ c t f, o ≠ .cells c t f) : (getObj r).run P w = .ok o w := by
  simp only [getObj, Sem.run]
  rw [h]
  cases o <;> first | rfl | exact absurd rfl (hc _ _ _)

theorem lookupA_ok {t : TypeId} {x i : AV} {xv iv : Value} {ok : Bool} (hR : Rel base ρ σ w) (hx : VR ρ x xv) (hi : VR ρ i iv) (h : (lookupA P t x i ok).run nid σ = some (v, σ', u)) : OkV P base ρ w (Instr.lookup t xv iv ok) v σ' := by
  unfold lookupA at h
  split at h
  · rename_i kt et hu
    split at h
    · rename_i z hk hz
      obtain ⟨kd, huk, hkk, hck⟩ := plainKey_ok (P := P) hi hk
      obtain ⟨ti, zv, hti, hzv, hzr⟩ := zeroA_ok (ρ := ρ) hz
      split at h
      · cases hx
        obtain ⟨rfl, rfl⟩ := run_val h
        have hf : Instr.findNow kd iv [] 0 = some none := rfl
        cases ok with
        | true =>
          refine .pure hR (v := .tuple #[zv, .bool false]) ?_ (VRs.to_tup (.cons hzr (.cons (.bool _) (.nil _))))
          unfold Instr.lookup
          simp only [Sem.run_bind, run_underlying hu, Result.andThen, Sem.run_pure, hck, run_find huk hf, run_zeroValue hti hzv, if_true]
        | false =>
          refine .pure hR (v := zv) ?_ hzr
          unfold Instr.lookup
          simp only [Sem.run_bind, run_underlying hu, Result.andThen, Sem.run_pure, hck, run_find huk hf, run_zeroValue hti hzv, Bool.false_eq_true, if_false]
      · rename_i b
        cases hx with
        | mp hl =>
          rename_i l
          obtain ⟨y, hy, hkk', rfl⟩ := run_read h
          split at hkk'
          · rename_i es clock
            split at hkk'
            · rename_i r hf
              cases hkk'
              obtain ⟨es', hb1, hb2, hb3, hb4⟩ := hR.at_ hy hl
              have hm : MRs ρ es es'.toList := ⟨by simpa using hb3, fun i k v n e a b => hb4 i k v n e a (by simpa using b)⟩
              have := findA_ok hi hkk es es'.toList 0 r hm hf
              have hget : (getObj l.blk).run P w = .ok (.map es' clock) w := run_getObj_at hb1 (by intro c t f e; cases e)
              cases r with
              | none =>
                cases ok with
                | true =>
                  refine .pure hR (v := .tuple #[zv, .bool false]) ?_ (VRs.to_tup (.cons hzr (.cons (.bool _) (.nil _))))
                  unfold Instr.lookup
                  simp only [Sem.run_bind, run_underlying hu, Result.andThen, Sem.run_pure, hck, hget, run_find huk this, run_zeroValue hti hzv, if_true]
                | false =>
                  refine .pure hR (v := zv) ?_ hzr
                  unfold Instr.lookup
                  simp only [Sem.run_bind, run_underlying hu, Result.andThen, Sem.run_pure, hck, hget, run_find huk this, run_zeroValue hti hzv, Bool.false_eq_true, if_false]
              | some p =>
                obtain ⟨j, zj⟩ := p
                obtain ⟨_, k, n, e, g1, g2, g3, _⟩ := this
                have hv := (hm.2 _ k zj n e g1 g2).2.1
                cases ok with
                | true =>
                  refine .pure hR (v := .tuple #[e.val, .bool true]) ?_ (VRs.to_tup (.cons hv (.cons (.bool _) (.nil _))))
                  unfold Instr.lookup
                  simp only [Sem.run_bind, run_underlying hu, Result.andThen, Sem.run_pure, hck, hget, run_find huk g3, if_true]
                | false =>
                  refine .pure hR (v := e.val) ?_ hv
                  unfold Instr.lookup
                  simp only [Sem.run_bind, run_underlying hu, Result.andThen, Sem.run_pure, hck, hget, run_find huk g3, Bool.false_eq_true, if_false]
            · cases hkk'
          · cases hkk'
      · exact (run_fail h).elim
    · exact (run_fail h).elim
  · exact (run_fail h).elim

theorem setObj_same {w : World} {k : Nat} {o o' : Obj} (h : w.heap[k]? = some o) : SameBut w { w with heap := w.heap.setIfInBounds k o' } k ∧ ({ w with heap := w.heap.setIfInBounds k o' } : World).heap[k]? = some o' := by
  have hlt : k < w.heap.size := (Array.getElem?_eq_some_iff.1 h).1
  refine ⟨⟨rfl, rfl, rfl, by simp, fun j hj => ?_⟩, ?_⟩
  · simp only; rw [Array.getElem?_setIfInBounds_ne (Ne.symm hj)]
  · simp only; rw [Array.getElem?_setIfInBounds_self_of_lt hlt]

theorem run_setObj_at {r : Nat} {o o' : Obj} {w : World} (h : w.heap[r]? = some o) (hc : ∀ c t f, o ≠ .cells c t f) : (setObj r o').run P w = .ok () { w with heap := w.heap.setIfInBounds r o' } := by
  simp only [setObj, Sem.run]
  rw [h]
  cases o <;> first | rfl | exact absurd rfl (hc _ _ _)

theorem sameBits_of {kd : TypeDesc} {x k : AV} {xv kv : Value} (hx : VR ρ x xv) (hk : VR ρ k kv) (h : eqKey x k = some true) (n : Nat) : Instr.sameBits (n + 1) kv xv = true := by
  unfold eqKey at h
  split at h
  · cases hx; cases hk
    split at h
    · rename_i he
      rw [eqK_iff] at he
      subst he
      rw [eqI_iff] at h
      simp only [Option.some.injEq, beq_iff_eq] at h
      subst h
      simp [Instr.sameBits]
    · cases h
  · cases hx with
    | str h1 =>
      cases hk with
      | str h2 =>
        subst h1; subst h2
        simp only [Option.some.injEq] at h
        rw [eqL_iff] at h
        rw [bytesOf_inj h]
        simp only [Instr.sameBits]
        exact (ba_beq_iff _ _).2 rfl
  · cases h

theorem putAt_get {α : Type} : ∀ (l : List α) (i j : Nat) (x : α), i < l.length → (putAt l i x)[j]? = if i = j then some x else l[j]? := by
  intro l
  induction l with
  | nil => intro i j x h; simp at h
  | cons y l ih =>
    intro i j x h
    cases i with
    | zero => cases j <;> simp [putAt]
    | succ i =>
      cases j with
      | zero => simp [putAt]
      | succ j =>
        have := ih i j x (by simpa using h)
        simp only [putAt, List.getElem?_cons_succ, this]
        by_cases e : i = j <;> simp [e]

theorem putAt_length {α : Type} : ∀ (l : List α) (i : Nat) (x : α), (putAt l i x).length = l.length := by
  intro l
  induction l with
  | nil => intro i x; rfl
  | cons y l ih => intro i x; cases i <;> simp [putAt, ih]

theorem mapPutA_ok {t : TypeId} {m k x : AV} {mv kv xv : Value} (hR : Rel base ρ σ w) (hm : VR ρ m mv) (hk : VR ρ k kv) (hx : VR ρ x xv) (h : (mapPutA P t m k x).run nid σ = some (v, σ', u)) :
    v = .und ∧ OkU P base ρ w (Instr.mapUpdate t mv kv xv) σ' := by
  unfold mapPutA at h
  split at h
  · rename_i kt et hu
    split at h
    · rename_i hpk
      obtain ⟨kd, huk, hkk, hck⟩ := plainKey_ok (P := P) hk hpk
      split at h
      · rename_i b
        cases hm with
        | mp hl =>
          rename_i l
          obtain ⟨y, y', hy, hkk', rfl⟩ := run_write h
          split at hkk'
          · rename_i es clock
            obtain ⟨es', hb1, hb2, hb3, hb4⟩ := hR.at_ hy hl
            have hmr : MRs ρ es es'.toList := ⟨by simpa using hb3, fun i k v n e a b => hb4 i k v n e a (by simpa using b)⟩
            have hget : (getObj l.blk).run P w = .ok (.map es' clock) w := run_getObj_at hb1 (by intro c t f e; cases e)
            split at hkk'
            · rename_i i zi hf
              have hfo := findA_ok hk hkk es es'.toList 0 _ hmr hf
              obtain ⟨_, k0, n0, e, g1, g2, g3, g4⟩ := hfo
              simp only [Nat.sub_zero] at g1 g2
              split at hkk'
              · rename_i k1 v1 n hei
                rw [hei] at g1
                simp only [Option.some.injEq, Prod.mk.injEq] at g1
                obtain ⟨rfl, rfl, rfl⟩ := g1
                simp only [Option.some.injEq, Prod.mk.injEq] at hkk'
                obtain ⟨rfl, rfl⟩ := hkk'
                refine ⟨rfl, ?_⟩
                have hent := hmr.2 _ _ _ _ _ hei g2
                have hlt : i < es.length := (List.getElem?_eq_some_iff.1 hei).1
                have g2' : es'[i]? = some e := by simpa using g2
                have hsame := sameBits_of (kd := kd) hk hent.1 g4 9999
                obtain ⟨hs1, hs2⟩ := setObj_same (o' := .map (es'.modify i fun e => { e with key := kv, val := xv }) clock) hb1
                refine ⟨_, ρ, ?_, Rho.le_refl _, hR.upd hy hl rfl hs1 hb2 ?_, hs1.below hb2⟩
                · unfold Instr.mapUpdate
                  simp only [Sem.run_bind, run_underlying hu, Result.andThen, hget, hck, run_find huk g3, Instr.keyThatStays, g2', Option.map_some, Option.getD_some, hsame, if_true, Sem.run_pure]
                  exact run_setObj_at hb1 (by intro c t f e; cases e)
                · refine ⟨_, hs2, hb2, by rw [putAt_length]; simpa using hb3, fun j kk vv nn ee ha hb => ?_⟩
                  rw [putAt_get _ _ _ _ hlt] at ha
                  simp only [Array.getElem?_modify] at hb
                  by_cases hij : i = j
                  · subst hij
                    simp only [if_true, Option.some.injEq, Prod.mk.injEq] at ha
                    obtain ⟨rfl, rfl, rfl⟩ := ha
                    simp only [if_true, g2', Option.map_some, Option.some.injEq] at hb
                    subst hb
                    exact ⟨hk, hx, hent.2.2⟩
                  · rw [if_neg hij] at ha
                    rw [if_neg hij] at hb
                    exact hb4 j kk vv nn ee ha hb
              · cases hkk'
            · rename_i hf
              have hfo := findA_ok hk hkk es es'.toList 0 _ hmr hf
              simp only [Option.some.injEq, Prod.mk.injEq] at hkk'
              obtain ⟨rfl, rfl⟩ := hkk'
              refine ⟨rfl, ?_⟩
              obtain ⟨hs1, hs2⟩ := setObj_same (o' := .map (es'.push { key := kv, val := xv, born := clock }) (clock + 1)) hb1
              refine ⟨_, ρ, ?_, Rho.le_refl _, hR.upd hy hl rfl hs1 hb2 ?_, hs1.below hb2⟩
              · unfold Instr.mapUpdate
                simp only [Sem.run_bind, run_underlying hu, Result.andThen, hget, hck, run_find huk hfo]
                exact run_setObj_at hb1 (by intro c t f e; cases e)
              · refine ⟨_, hs2, hb2, by simp [hb3], fun j kk vv nn ee ha hb => ?_⟩
                simp only [Array.getElem?_push] at hb
                by_cases hj : j = es.length
                · subst hj
                  rw [List.getElem?_append_right (Nat.le_refl _)] at ha
                  simp at ha
                  obtain ⟨rfl, rfl, rfl⟩ := ha
                  rw [if_pos (by omega)] at hb
                  cases hb
                  exact ⟨hk, hx, rfl⟩
                · have hj' : j < es.length := by
                    have := (List.getElem?_eq_some_iff.1 ha).1
                    simp at this; omega
                  rw [List.getElem?_append_left hj'] at ha
                  rw [if_neg (by omega)] at hb
                  exact hb4 j kk vv nn ee ha hb
            · cases hkk'
          · cases hkk'
      · exact (run_fail h).elim
    · exact (run_fail h).elim
  · exact (run_fail h).elim

end
end Go.Ev

namespace Go.Ev

section
variable {P : Program} {ρ : Rho} {base : Bd} {σ σ' : St} {w : World} {nid : Pos} {u : Bool} {v : AV}

theorem elemOfSlice_ok {t e : TypeId} (h : elemOfSlice P t = some e) : P.underlying t = some (.slice e) := by
  unfold elemOfSlice at h
  split at h
  · rename_i hu; cases h; exact hu
  · cases h

theorem bytesT_ok {t : TypeId} {n : Nat} {i : TypeInfo} (h : bytesT P t = some n) (hi : P.info? t = some i) : i.bytes = n := by
  unfold bytesT at h
  rw [hi] at h
  cases h; rfl

theorem sizeT_eq {t : TypeId} {n : Nat} {i : TypeInfo} (h : sizeT P t = some n) (hi : P.info? t = some i) : i.size = n := by
  unfold sizeT at h
  rw [hi] at h
  cases h; rfl

theorem makeSliceA_ok {t : TypeId} {l c : AV} {lv cv : Value} (hR : Rel base ρ σ w) (hl : VR ρ l lv) (hc : VR ρ c cv) (h : (makeSliceA P t l c).run nid σ = some (v, σ', u)) : OkV P base ρ w (Instr.makeSlice t lv cv) v σ' := by
  unfold makeSliceA at h
  split at h
  · rename_i kl ln kc cn
    cases hl; cases hc
    split at h
    · exact (run_fail h).elim
    · rename_i e he
      have hu := elemOfSlice_ok he
      split at h
      · rename_i n z by_ hs hz hby
        split at h
        · rename_i h1 h2 h3 h4 h5
          obtain ⟨rfl, rfl, hn⟩ := run_new h
          have h1 := Nat.eq_of_beq_eq_true h1
          have h2 := Nat.le_of_ble_eq_true h2
          have h3 := Nat.le_of_ble_eq_true h3
          have h4 := Nat.le_of_ble_eq_true h4
          have h5 := Nat.le_of_ble_eq_true h5
          obtain ⟨i, zv, hi, hzv, hr⟩ := zeroC_ok (ρ := ρ) hz
          have hib := bytesT_ok hby hi
          have his := sizeT_eq hs hi
          have hv := hr.zeros cn (cn * n) (by rw [h1]) (by omega)
          have h6 := rel_newRow hR hn hv e n false 0 (0, 0) [] (fun _ => rfl) (by simp) (by intro j _ ⟨_, h⟩; exact absurd h (by omega))
          simp only [List.append_nil, Array.toArray_toList] at h6
          refine ⟨.slice (some ⟨w.heap.size, 0, none⟩) ln cn, _, _, ?_, rho_slice (l := ⟨w.heap.size, 0, 0⟩) Rho.upd_same rfl, Rho.le_upd (hR.unset hn), h6, (Bel.refl _ _).alloc hR.le _⟩
          have hsz : i.bytes * cn ≤ 1000000000 := by rw [hib]; exact h4
          have w1 : IntKind.i64.wrap (Int.ofNat cn) = cn := by
            rw [← wrapA_eq]; simp only [wrapA, maxNat, ble_iff]; rw [decide_eq_true (by omega)]; rfl
          have w2 : IntKind.i64.wrap (Int.ofNat ln) = ln := by
            rw [← wrapA_eq]; simp only [wrapA, maxNat, ble_iff]; rw [decide_eq_true (by omega)]; rfl
          have t1 : (decide ((cn : Int) < 0) || decide (((i.bytes * (cn : Int) : Int)) > 2 ^ 48)) = false := by
            have : ¬ ((i.bytes : Int) * (cn : Int) > 2 ^ 48) := by
              have : ((i.bytes * cn : Nat) : Int) = (i.bytes : Int) * (cn : Int) := by simp
              omega
            simp only [this, decide_false, Bool.or_false, decide_eq_false_iff_not]; omega
          unfold Instr.makeSlice
          simp only [Sem.run_bind, run_underlying hu, Result.andThen, asInt, asIntOf, Sem.run_pure, run_typeInfo w hi, w1, w2, t1]
          have c2 : (decide ((ln : Int) < 0)) = false := by simp only [decide_eq_false_iff_not]; omega
          have c3 : (decide ((ln : Int) > (cn : Int))) = false := by simp only [decide_eq_false_iff_not]; omega
          simp only [c2, c3, Bool.or_false, Bool.false_eq_true, if_false, run_askRoom, (sizeT_ok hs).2, Int.toNat_natCast, Sem.run_bind, Result.andThen]
          by_cases h0 : cn * n = 0
          · have hc0 : cn = 0 := by rcases Nat.mul_eq_zero.1 h0 with h | h; · exact h
                                    · omega
            subst hc0
            have hz0 : Array.range 0 = #[] := Array.eq_empty_of_size_eq_zero (by simp)
            simp [hz0, newRow, Sem.run_bind, Result.andThen, Sem.run_pure]
          · simp only [h0, if_false, run_zeroValue hi hzv, Sem.run_bind, Result.andThen, Sem.run_pure]
            simp [newRow, Sem.run_bind, Result.andThen, Sem.run_pure]
        · exact (run_fail h).elim
      · exact (run_fail h).elim
  · exact (run_fail h).elim

theorem typeAssertA_ok {t xt : TypeId} {x : AV} {xv : Value} {ok : Bool} (hR : Rel base ρ σ w) (hx : VR ρ x xv) (h : typeAssertA P x t ok = some v) : OkV P base ρ w (Instr.typeAssert xv xt t ok) v σ := by
  unfold typeAssertA at h
  split at h
  · cases h
  · rename_i d hd hu
    split at h
    · split at h
      · rename_i z hz
        obtain ⟨ti, zv, hti, hzv, hzr⟩ := zeroA_ok (ρ := ρ) hz
        split at h
        · cases h; cases hx
          refine .pure hR (v := .tuple #[zv, .bool false]) ?_ (VRs.to_tup (.cons hzr (.cons (.bool _) (.nil _))))
          unfold Instr.typeAssert
          simp only [Sem.run_bind, run_underlying hu, Result.andThen]
          cases d <;> first | exact absurd rfl (hd _) | simp only [if_true, Sem.run_bind, run_zeroValue hti hzv, Result.andThen, Sem.run_pure]
        · rename_i s y
          cases hx with
          | ifc hy =>
            rename_i yv
            split at h
            · rename_i he
              cases h
              have he := Nat.eq_of_beq_eq_true he
              refine .pure hR (v := .tuple #[yv, .bool true]) ?_ (VRs.to_tup (.cons hy (.cons (.bool _) (.nil _))))
              unfold Instr.typeAssert
              simp only [Sem.run_bind, run_underlying hu, Result.andThen]
              cases d <;> first | exact absurd rfl (hd _) | simp only [he, if_true, Sem.run_pure]
            · rename_i he
              cases h
              have he : s ≠ t := fun e => by rw [e, beq_iff] at he; simp at he
              refine .pure hR (v := .tuple #[zv, .bool false]) ?_ (VRs.to_tup (.cons hzr (.cons (.bool _) (.nil _))))
              unfold Instr.typeAssert
              simp only [Sem.run_bind, run_underlying hu, Result.andThen]
              cases d <;> first | exact absurd rfl (hd _) | simp only [he, if_false, if_true, Sem.run_bind, run_zeroValue hti hzv, Result.andThen, Sem.run_pure]
        · cases h
      · cases h
    · split at h
      · rename_i s y
        cases hx with
        | ifc hy =>
          rename_i yv
          split at h
          · rename_i he
            cases h
            have he := Nat.eq_of_beq_eq_true he
            refine .pure hR (v := yv) ?_ hy
            unfold Instr.typeAssert
            simp only [Sem.run_bind, run_underlying hu, Result.andThen]
            cases d <;> first | exact absurd rfl (hd _) | simp only [he, Bool.false_eq_true, if_false, if_true, Sem.run_pure]
          · cases h
      · cases h
  · cases h

/-! ### The built-in functions -/

theorem lenA_ok {ts : Array TypeId} {t ty : TypeId} {x : AV} {xv : Value} (hR : Rel base ρ σ w) (hx : VR ρ x xv) (ht : ts[0]? = some t) (h : (lenA P t x).run nid σ = some (v, σ', u)) : OkV P base ρ w (Builtin.len_ ts ty #[xv]) v σ' := by
  unfold lenA at h
  split at h
  · rename_i s hu
    obtain ⟨rfl, rfl⟩ := run_val h
    cases hx with
    | str hb =>
      rename_i b
      subst hb
      refine .pure hR (v := goInt b.size) ?_ (by rw [bytesOf_length]; exact .int _ _)
      simp [Builtin.len_, ht, Sem.run_bind, run_underlying hu, Result.andThen, Sem.run_pure]
  · rename_i n e hu
    obtain ⟨rfl, rfl⟩ := run_val h
    refine .pure hR (v := goInt n) ?_ (.int _ _)
    simp [Builtin.len_, ht, Sem.run_bind, run_underlying hu, Result.andThen, Sem.run_pure]
  · rename_i e hu
    obtain ⟨rfl, rfl⟩ := run_val h
    cases hx
    refine .pure hR (v := goInt 0) ?_ (.int _ _)
    simp [Builtin.len_, ht, Sem.run_bind, run_underlying hu, Result.andThen, Sem.run_pure]
  · rename_i e b o n cap opn hu
    obtain ⟨rfl, rfl⟩ := run_val h
    cases hx
    refine .pure hR (v := goInt n) ?_ (.int _ _)
    simp [Builtin.len_, ht, Sem.run_bind, run_underlying hu, Result.andThen, Sem.run_pure]
  · rename_i e hu
    obtain ⟨rfl, rfl⟩ := run_val h
    cases hx
    refine .pure hR (v := goInt 0) ?_ (.int _ _)
    simp [Builtin.len_, ht, Sem.run_bind, run_underlying hu, Result.andThen, Sem.run_pure]
  · rename_i k e hu
    obtain ⟨rfl, rfl⟩ := run_val h
    cases hx
    refine .pure hR (v := goInt 0) ?_ (.int _ _)
    simp [Builtin.len_, ht, Sem.run_bind, run_underlying hu, Result.andThen, Sem.run_pure]
  · rename_i k e b hu
    cases hx with
    | mp hl =>
      rename_i l
      obtain ⟨y, hy, hk, rfl⟩ := run_read h
      split at hk
      · rename_i es clock
        cases hk
        obtain ⟨es', hb1, hb2, hb3, hb4⟩ := hR.at_ hy hl
        have hget : (getObj l.blk).run P w = .ok (.map es' clock) w := run_getObj_at hb1 (by intro c t f e; cases e)
        refine .pure hR (v := goInt es'.size) ?_ (by rw [hb3]; exact .int _ _)
        simp [Builtin.len_, ht, Sem.run_bind, run_underlying hu, Result.andThen, Sem.run_pure, hget]
      · cases hk
  · exact (run_fail h).elim

theorem fold_ok (mx : Bool) : ∀ (xs : List AV) (vs : List Value) (x : AV) (xv : Value) (w : World), VR ρ x xv → VRs ρ xs vs → foldA mx x xs = some v →
    ∃ z, (vs.foldlM (if mx = true then Builtin.max2 else Builtin.min2) xv).run P w = .ok z w ∧ VR ρ v z := by
  intro xs
  induction xs with
  | nil =>
    intro vs x xv w hx hr h
    cases h
    cases vs with
    | nil => exact ⟨xv, by simp [Sem.run_pure], hx⟩
    | cons _ _ => have := hr.1; simp at this
  | cons y xs ih =>
    intro vs x xv w hx hr h
    cases vs with
    | nil => have := hr.1; simp at this
    | cons yv vs =>
      have h0 := hr.2 0 y yv rfl rfl
      have ht : VRs ρ xs vs := ⟨by have := hr.1; simpa using this, fun i y u a b => hr.2 (i + 1) y u (by simpa using a) (by simpa using b)⟩
      simp only [foldA] at h
      split at h
      · rename_i z hz
        have key : ∃ zv, ((if mx = true then Builtin.max2 else Builtin.min2) xv yv).run P w = .ok zv w ∧ VR ρ z zv := by
          unfold max2A at hz
          split at hz
          · rename_i k a k' b
            cases hx; cases h0
            cases mx with
            | true =>
              simp only [ltI_iff] at hz
              by_cases hab : a < b
              · rw [decide_eq_true hab] at hz; cases hz
                exact ⟨.int k b, by simp [Builtin.max2, Sem.run_pure, hab], .int _ _⟩
              · rw [decide_eq_false hab] at hz; cases hz
                exact ⟨.int k a, by simp only [Builtin.max2, if_true, Sem.run_pure]; rw [if_neg (by omega)], .int _ _⟩
            | false =>
              simp only [ltI_iff] at hz
              by_cases hab : b < a
              · rw [decide_eq_true hab] at hz; cases hz
                exact ⟨.int k b, by simp [Builtin.min2, Sem.run_pure, hab], .int _ _⟩
              · rw [decide_eq_false hab] at hz; cases hz
                exact ⟨.int k a, by simp only [Builtin.min2, Bool.false_eq_true, if_false, Sem.run_pure]; rw [if_neg (by omega)], .int _ _⟩
          · rename_i a b
            cases hx; cases h0
            split at hz
            · cases hz
            · rename_i ho
              cases hz
              cases mx with
              | true => exact ⟨.float .f64 b, by simp [Builtin.max2, Sem.run_pure, ho], .flt _⟩
              | false => exact ⟨.float .f64 a, by simp [Builtin.min2, Sem.run_pure, ho], .flt _⟩
            · rename_i ho
              cases hz
              cases mx with
              | true => exact ⟨.float .f64 a, by simp [Builtin.max2, Sem.run_pure, ho], .flt _⟩
              | false => exact ⟨.float .f64 b, by simp [Builtin.min2, Sem.run_pure, ho], .flt _⟩
            · rename_i ho
              cases hz
              cases hn : (FloatKind.f64.decode a).neg with
              | true =>
                cases mx with
                | true => exact ⟨.float .f64 b, by simp [Builtin.max2, Sem.run_pure, ho, hn], .flt _⟩
                | false => exact ⟨.float .f64 a, by simp [Builtin.min2, Sem.run_pure, ho, hn], .flt _⟩
              | false =>
                cases mx with
                | true => exact ⟨.float .f64 a, by simp [Builtin.max2, Sem.run_pure, ho, hn], .flt _⟩
                | false => exact ⟨.float .f64 b, by simp [Builtin.min2, Sem.run_pure, ho, hn], .flt _⟩
          · cases hz
        obtain ⟨zv, hrun, hzv⟩ := key
        obtain ⟨r, hr1, hr2⟩ := ih vs z zv w hzv ht h
        exact ⟨r, by rw [List.foldlM_cons]; simp only [Sem.run_bind, hrun, Result.andThen, hr1], hr2⟩
      · cases h

theorem zeroCells_eq (zero : Array Value) (n : Nat) : Builtin.zeroCells zero n = (Array.range (n * zero.size)).map (zero[· % zero.size]!) := rfl

theorem clearA_ok {ts : Array TypeId} {t ty : TypeId} {x : AV} {xv : Value} (hR : Rel base ρ σ w) (hx : VR ρ x xv) (ht : ts[0]? = some t) (h : (clearA P t x).run nid σ = some (v, σ', u)) : OkV P base ρ w (Builtin.clear_ ts ty #[xv]) v σ' := by
  unfold clearA at h
  split at h
  · rename_i e hu
    obtain ⟨rfl, rfl⟩ := run_val h
    cases hx
    refine .pure hR (v := .tuple #[]) ?_ (.und _)
    simp [Builtin.clear_, ht, Sem.run_bind, run_underlying hu, Result.andThen, Sem.run_pure]
  · rename_i e hu
    obtain ⟨rfl, rfl⟩ := run_val h
    cases hx
    refine .pure hR (v := .tuple #[]) ?_ (.und _)
    simp [Builtin.clear_, ht, Sem.run_bind, run_underlying hu, Result.andThen, Sem.run_pure]
  · rename_i e b o n cap opn hu
    cases hx with
    | sl hl =>
      rename_i l
      split at h
      · obtain ⟨rfl, rfl⟩ := run_val h
        refine .pure hR (v := .tuple #[]) ?_ (.und _)
        simp [Builtin.clear_, ht, Sem.run_bind, run_underlying hu, Result.andThen, Sem.run_pure]
      · rename_i n
        split at h
        · rename_i sz z hs hz
          split at h
          · rename_i h1 h2
            obtain ⟨y, y', hy, hk, rfl⟩ := run_write h
            split at hk
            · rename_i y'' hst
              simp only [Option.some.injEq, Prod.mk.injEq] at hk
              obtain ⟨rfl, rfl⟩ := hk
              unfold storeRow at hst
              split at hst
              · rename_i cells t' sz' opn'
                split at hst
                · rename_i hle
                  cases hst
                  have h1 := Nat.eq_of_beq_eq_true h1
                  obtain ⟨i, zv, hi, hzv, hr⟩ := zeroC_ok (ρ := ρ) hz
                  have hzl := hr.1
                  simp only [Array.length_toList] at hzl
                  have allz : allOk (repl (n + 1) z) = true := by
                    have hmem := allOk_mem h2
                    have conv : ∀ xs : List AV, (∀ x, x ∈ xs → okCell x = true) → allOk xs = true := by
                      intro xs
                      induction xs with
                      | nil => intro _; rfl
                      | cons x xs ih => intro hh; simp only [allOk, hh x (List.mem_cons_self ..)]; exact ih (fun y hy => hh y (List.mem_cons_of_mem _ hy))
                    apply conv
                    intro x hx
                    have : ∀ m, x ∈ repl m z → x ∈ z := by
                      intro m
                      induction m with
                      | zero => intro hx; simp [repl] at hx
                      | succ m ih => intro hx; simp only [repl, List.mem_append] at hx; exact hx.elim id ih
                    exact hmem x (this _ hx)
                  have hv : VRs ρ (repl (n + 1) z) (Builtin.zeroCells zv.cells (n + 1)).toList := by
                    rcases Nat.eq_zero_or_pos z.length with h0 | h0
                    · have : z = [] := List.length_eq_zero_iff.1 h0
                      subst this
                      have e1 : repl (n + 1) ([] : List AV) = [] := List.length_eq_zero_iff.1 (by rw [repl_length]; simp)
                      have e2 : (Builtin.zeroCells zv.cells (n + 1)).toList = [] := List.length_eq_zero_iff.1 (by rw [zeroCells_eq]; simp [← hzl])
                      rw [e1, e2]; exact .nil _
                    · exact hr.zeros (n + 1) _ (by rw [hzl]) h0
                  obtain ⟨w', hrun, hs', hb⟩ := row_stores (P := P) (hR.at_ hy hl) (Nat.le_of_ble_eq_true hle) hv allz
                  have hbl : base.mod l.blk := by
                    obtain ⟨arr, tt, lo, hi, _, _, _, h4, _⟩ := hR.at_ hy hl
                    exact h4 rfl
                  refine ⟨.tuple #[], w', ρ, ?_, .und _, Rho.le_refl _, hR.upd hy hl rfl hs' hbl hb, hs'.below hbl⟩
                  simp [Builtin.clear_, ht, Sem.run_bind, run_underlying hu, Result.andThen, Sem.run_pure, run_zeroValue hi hzv, hrun]
                · cases hst
              · cases hst
            · cases hk
          · exact (run_fail h).elim
        · exact (run_fail h).elim
  · exact (run_fail h).elim

end
end Go.Ev

namespace Go.Ev

section
variable {P : Program} {ρ : Rho} {base : Bd} {σ σ' : St} {w : World} {nid : Pos} {u : Bool} {v : AV}

theorem Rel.kill (h : Rel base ρ σ w) {b : Pos} {x : ABlk} (hb : σ.hp.get b = some x) : Rel base ρ { σ with hp := σ.hp.set .dead b } w := by
  refine ⟨fun c m hc => ?_, fun c y hc => ?_, fun c d m m' y y' hm hm' hy hy' ly ly' e => ?_, h.le, h.old⟩
  · simp only [PTree.get_set]; split
    · simp
    · exact h.dom c m hc
  · simp only [PTree.get_set] at hc
    split at hc
    · rename_i e; subst e; cases hc
      obtain ⟨l, hl, _⟩ := h.blk b x hb
      exact ⟨l, hl, trivial⟩
    · exact h.blk c y hc
  · simp only [PTree.get_set] at hy hy'
    split at hy
    · cases hy; cases ly
    · split at hy'
      · cases hy'; cases ly'
      · exact h.inj c d m m' y y' hm hm' hy hy' ly ly' e

theorem growBy_le (n : Nat) : ∀ (r c : Nat), c ≤ 2 * n + 200 → Builtin.growBy n r c ≤ 2 * n + 200 := by
  intro r
  induction r with
  | zero => intro c h; exact h
  | succ r ih =>
    intro c h
    simp only [Builtin.growBy]
    split
    · exact h
    · exact ih _ (by omega)

theorem nextslicecap_le {n c : Nat} (h : c < n) : Builtin.nextslicecap n c ≤ 2 * n + 200 := by
  unfold Builtin.nextslicecap
  split
  · omega
  · split
    · omega
    · exact growBy_le _ _ _ (by omega)

theorem run_lenOf {x : AV} {xv : Value} {src : Src} (hx : VR ρ x xv) (hs : srcA x = some src) (w : World) : (Builtin.lenOf xv).run P w = .ok src.n w := by
  cases x <;> simp only [srcA] at hs <;> first | (cases hs; done) | skip
  · cases hx with
    | str hb => subst hb; cases hs; simp [Builtin.lenOf, Src.n, bytesOf_length, Sem.run_pure]
  · cases hx; cases hs; simp [Builtin.lenOf, Src.n, Sem.run_pure]
  · cases hx; cases hs; simp [Builtin.lenOf, Src.n, Sem.run_pure]
  · cases hx; cases hs; simp [Builtin.lenOf, Src.n, Sem.run_pure]

theorem run_src {x : AV} {xv : Value} {src : Src} {sz : Nat} {y : Option ABlk} {new : List AV} (hR : Rel base ρ σ w) (hx : VR ρ x xv) (hs : srcA x = some src)
    (hy : ∀ b o n, src = .of b o n → σ.hp.get b = y) (h : srcCells sz src y = some new) :
    ∃ vs : List Value, (Builtin.firstCells sz src.n xv).run P w = .ok vs.toArray w ∧ VRs ρ new vs ∧ new.length = src.n * sz := by
  cases x <;> simp only [srcA] at hs <;> first | (cases hs; done) | skip
  · cases hx with
    | str hb =>
      rename_i b
      subst hb; cases hs
      simp only [srcCells] at h
      split at h
      · rename_i hl
        cases h
        refine ⟨(b.data.map fun c => (Value.int .u8 c.toNat : Value)).toList, ?_, byteCells_ok b, Nat.eq_of_beq_eq_true hl⟩
        simp only [Builtin.firstCells, Src.n, bytesOf_length, Sem.run_pure, Array.toArray_toList]
        congr 2
        have : b.extract 0 b.size = b := by
          apply bytesOf_inj
          rw [bytesOf_extract _ _ _ (Nat.zero_le _)]
          simp [bytesOf_length, List.take_of_length_le]
        rw [this]
      · cases h
  · cases hx; cases hs
    simp only [srcCells] at h
    split at h
    · cases h
      exact ⟨[], by simp [Builtin.firstCells, Sem.run_pure], .nil _, by simp [Src.n]⟩
    · cases h
  · cases hx with
    | sl hl =>
      cases hs
      rename_i b o n cap opn l
      have hb := hy b o n rfl
      simp only [srcCells] at h
      split at h
      · rename_i cells t sz' opn' wr
        split at h
        · rename_i hle
          cases h
          have hle := Nat.le_of_ble_eq_true hle
          obtain ⟨vs, hrun, hr⟩ := row_loads (P := P) (hR.at_ hb hl) hle
          refine ⟨vs, ?_, hr, by simp [Src.n]; omega⟩
          simp only [Builtin.firstCells, Src.n]
          exact hrun
        · cases h
      · cases h
  · cases hx; cases hs
    simp only [srcCells] at h
    split at h
    · cases h
      exact ⟨[], by simp [Builtin.firstCells, Src.n, loadCells, loadCellsFrom, Sem.run_pure], .nil _, by simp [Src.n]⟩
    · cases h

theorem notInt_ok {t : Option TypeId} (h : notInt P t = true) : ∃ xt d, t = some xt ∧ P.underlying xt = some d ∧ ∀ k, d ≠ .int k := by
  unfold notInt at h
  cases t with
  | none => cases h
  | some t =>
    simp only at h
    cases hu : P.underlying t with
    | none => rw [hu] at h; cases h
    | some d =>
      refine ⟨t, d, rfl, hu, fun k e => ?_⟩
      subst e
      rw [hu] at h; cases h

/-- The call of append, as far as its new cells. -/
structure App (P : Program) (ts : Array TypeId) (e sz by_ : Nat) : Prop where
  st : ∃ st, ts[0]? = some st ∧ P.underlying st = some (.slice e)
  xt : notInt P ts[1]? = true
  info : ∃ i z, P.info? e = some i ∧ i.zero = some z ∧ i.bytes = by_ ∧ i.size = sz ∧ z.cells.size = sz
  pos : 1 ≤ sz

theorem run_append_fits {ts : Array TypeId} {e sz by_ : Nat} (A : App P ts e sz by_) {ty : TypeId} {xv : Value} {n len cap : Nat} {a : Addr} {vs : List Value} {w w' : World}
    (h1 : (Builtin.lenOf xv).run P w = .ok n w) (h2 : (Builtin.firstCells sz n xv).run P w = .ok vs.toArray w) (h3 : len + n ≤ cap) (h4 : (storeCells (a.add (len * sz)) vs).run P w = .ok () w') :
    (Builtin.append_ ts ty #[.slice (some a) len cap, xv]).run P w = .ok (.slice (some a) (len + n) cap) w' := by
  obtain ⟨st, hst, hu⟩ := A.st
  obtain ⟨i, z, hi, hz, hb, hs, hzl⟩ := A.info
  unfold Builtin.append_
  simp only [hst, List.getElem?_toArray, List.getElem?_cons_zero, List.getElem?_cons_succ]
  have hsz : (Go.sizeOf e).run P w = .ok sz w := by rw [← hs]; simp [Go.sizeOf, run_typeInfo w hi, Result.andThen]
  obtain ⟨xt, d, hx1, hx2, hx3⟩ := notInt_ok A.xt
  simp only [hx1, Sem.run_bind, run_underlying hu, run_underlying hx2, Result.andThen, hsz, Sem.run_pure]
  cases d <;> first
    | exact absurd rfl (hx3 _)
    | simp only [Sem.run_bind, Result.andThen, Bool.false_eq_true, if_false, h1, h3, if_true, Bool.not_false, h2, h4, Sem.run_pure]

theorem run_append_grows {ts : Array TypeId} {e sz by_ : Nat} (A : App P ts e sz by_) {ty : TypeId} {xv : Value} {n len cap : Nat} {base : Option Addr} {old vs : List Value} {w : World}
    (h1 : (Builtin.lenOf xv).run P w = .ok n w) (h2 : (Builtin.firstCells sz len (.slice base len cap)).run P w.drew = .ok old.toArray w.drew) (h2' : (Builtin.firstCells sz n xv).run P w.drew = .ok vs.toArray w.drew) (h3 : cap < len + n) (hr : roomy (len + n) by_ = true) :
    ∃ z : Array Value, z.size = sz ∧ (Builtin.append_ ts ty #[.slice base len cap, xv]).run P w = .ok (.slice (some ⟨w.heap.size, 0, none⟩) (len + n) (grownCap w (len + n) cap e))
      (w.drew.alloc (.cells ((old ++ vs) ++ (Builtin.zeroCells z (grownCap w (len + n) cap e - (len + n))).toList).toArray e)) := by
  obtain ⟨st, hst, hu⟩ := A.st
  obtain ⟨i, z, hi, hz, hb, hs, hzl⟩ := A.info
  refine ⟨z.cells, hzl, ?_⟩
  unfold roomy at hr
  split at hr
  · rename_i r1 r2
    have r1 := Nat.le_of_ble_eq_true r1
    have r2 := Nat.le_of_ble_eq_true r2
    have hn := nextslicecap_le h3
    have hm : IntKind.i64.max = 9223372036854775807 := by decide
    have c1 : ¬ (((len + n : Nat) : Int) > IntKind.i64.max ∧ (false = true ∨ i.bytes = 0)) := by rw [hm]; omega
    have c2 : ¬ (Builtin.nextslicecap (len + n) cap * i.bytes > 2 ^ 48) := by
      rw [hb]
      have := Nat.mul_le_mul hn r2
      omega
    have c3 : ¬ (len + n ≤ cap) := by omega
    unfold Builtin.append_
    simp only [hst, List.getElem?_toArray, List.getElem?_cons_zero, List.getElem?_cons_succ]
    have hsz : (Go.sizeOf e).run P w = .ok sz w := by rw [← hs]; simp [Go.sizeOf, run_typeInfo w hi, Result.andThen]
    have hch : (choose (.appendCap (len + n) cap e)).run P w = .ok (grownCap w (len + n) cap e) w.drew := by
      rw [run_choose_drew]; rfl
    have c1' : (((len + n : Nat) : Int) > IntKind.i64.max ∧ (False ∨ i.bytes = 0)) = False := by
      apply eq_false; intro h; exact c1 ⟨h.1, h.2.elim False.elim .inr⟩
    obtain ⟨xt, d, hx1, hx2, hx3⟩ := notInt_ok A.xt
    have e1 : old.toArray ++ vs.toArray ++ Builtin.zeroCells z.cells (grownCap w (len + n) cap e - (len + n)) = ((old ++ vs) ++ (Builtin.zeroCells z.cells (grownCap w (len + n) cap e - (len + n))).toList).toArray := by
      apply Array.ext'; simp
    simp only [hx1, Sem.run_bind, run_underlying hu, run_underlying hx2, Result.andThen, hsz, Sem.run_pure]
    cases d <;> first
      | exact absurd rfl (hx3 _)
      | (simp only [Sem.run_bind, Result.andThen, Bool.false_eq_true, if_false, h1, c3, Bool.not_false, if_true, run_typeInfo w hi, c1', c2, hch, run_typeInfo w.drew hi, run_askRoom, h2, h2', run_zeroValue hi hz, newRow, run_newObj_alloc, Sem.run_pure]
         rw [e1]
         rfl)
  · cases hr

end
end Go.Ev

namespace Go.Ev

section
variable {P : Program} {ρ : Rho} {base : Bd} {σ σ' : St} {w : World} {nid : Pos} {u : Bool} {v : AV}

theorem VR.openSlice {b : Pos} {l : Loc} {need cap' : Nat} (h : ρ b = some l) (hc : cap' = need + l.extra) : VR ρ (.sl b 0 need need true) (.slice (some ⟨l.blk, l.off, none⟩) need cap') := by
  have := VR.sl (o := 0) (len := need) (cap := need) (opn := true) h
  simp only [Nat.add_zero, if_true] at this
  rwa [hc]

/-- A fresh row behind a draw. -/
theorem fresh_ok {xs : List AV} {vs : List Value} {e sz need cap : Nat} {z : Array Value} (hR : Rel base ρ σ w) (hn : σ.hp.get nid = none) (hr : VRs ρ xs vs) (hz : z.size = sz) (hcap : need ≤ cap) :
    Rel base (ρ.upd nid ⟨w.heap.size, 0, cap - need⟩) { σ with hp := σ.hp.set (.row xs e sz true true) nid } (w.drew.alloc (.cells (vs ++ (Builtin.zeroCells z (cap - need)).toList).toArray e)) ∧
    VR (ρ.upd nid ⟨w.heap.size, 0, cap - need⟩) (.sl nid 0 need need true) (.slice (some ⟨w.heap.size, 0, none⟩) need cap) ∧ Bel base w (w.drew.alloc (.cells (vs ++ (Builtin.zeroCells z (cap - need)).toList).toArray e)) := by
  have hR' : Rel base ρ σ w.drew := hR.sameHeap rfl
  refine ⟨?_, VR.openSlice (l := ⟨w.heap.size, 0, cap - need⟩) Rho.upd_same (by simp; omega), ((Bel.refl _ _).drew).alloc hR.le _⟩
  exact rel_newRow hR' hn hr e sz true (cap - need) (0, 0) _ (fun h => by cases h) (by rw [zeroCells_eq]; simp [hz]) (by intro j _ ⟨_, h⟩; exact absurd h (by omega))

theorem setAll_one {b : Pos} {x : ABlk} {lo : Nat} {hp hp' : PTree ABlk} (h : setAll lo [(b, x)] hp = some hp') : hp' = hp.set x b := by
  simp only [setAll] at h
  split at h
  · split at h
    · cases h; rfl
    · cases h
  · cases h

theorem appendTo_ok {ts : Array TypeId} {e sz by_ : Nat} (A : App P ts e sz by_) {ty : TypeId} {b : Pos} {o len cap n : Nat} {opn : Bool} {new : List AV} {y : ABlk} {r : MRes} {l : Loc} {xv : Value} {vs vs' : List Value} {hp : PTree ABlk}
    (hR : Rel base ρ σ w) (hl : ρ b = some l) (hy : σ.hp.get b = some y) (h : appendTo e sz by_ b o len cap opn n new y = some r)
    (hlen : ∀ w, (Builtin.lenOf xv).run P w = .ok n w) (hsrc : (Builtin.firstCells sz n xv).run P w = .ok vs.toArray w) (hsrc' : (Builtin.firstCells sz n xv).run P w.drew = .ok vs'.toArray w.drew) (hr : VRs ρ new vs) (hr' : VRs ρ new vs') (hnl : new.length = n * sz) (hok : allOk new = true)
    (hset : setAll σ.lo r.upd σ.hp = some hp) (hfin : (match r.nw with | none => some (r.val nid, (⟨hp, σ.nx, σ.lo⟩ : St), false) | some x => match hp.get nid with | some _ => none | none => some (r.val nid, ⟨hp.set x nid, σ.nx, σ.lo⟩, true)) = some (v, σ', u)) :
    OkV P base ρ w (Builtin.append_ ts ty #[.slice (some ⟨l.blk, l.off + o, none⟩) len (if opn = true then cap + l.extra else cap), xv]) v σ' := by
  unfold appendTo at h
  split at h
  · rename_i cells t sz' opn' wr
    have hblk := hR.at_ hy hl
    split at h
    · rename_i hfit
      have hfit := Nat.le_of_ble_eq_true hfit
      split at h
      · rename_i hwr hroom
        cases h
        have hroom := Nat.le_of_ble_eq_true hroom
        have hp' := setAll_one hset
        subst hp'
        simp only [Option.some.injEq, Prod.mk.injEq] at hfin
        obtain ⟨rfl, rfl, rfl⟩ := hfin
        have hin : (o + len * sz) + new.length ≤ cells.length := by
          rw [hnl]
          have : (len + n) * sz ≤ cap * sz := Nat.mul_le_mul_right _ hfit
          rw [Nat.add_mul] at this
          omega
        obtain ⟨w', hrun, hs', hb⟩ := row_stores (P := P) hblk hin hr hok
        have hbl : base.mod l.blk := by
          obtain ⟨arr, tt, lo, hi, _, _, _, h4, _⟩ := hblk
          exact h4 rfl
        refine ⟨_, w', ρ, run_append_fits A (hlen w) hsrc (by split <;> omega) (by rw [addr_add, Nat.add_assoc]; exact hrun), ?_, Rho.le_refl _, hR.upd hy hl rfl hs' hbl hb, hs'.below hbl⟩
        exact VR.sl hl
      · cases h
    · rename_i hfit
      have hfit : ¬ len + n ≤ cap := fun e => by rw [Nat.ble_eq_true_of_le e] at hfit; cases hfit
      split at h
      · rename_i hroomy hol
        have hol := Nat.le_of_ble_eq_true hol
        -- the old cells
        obtain ⟨olds, hold, hro⟩ := row_loads (P := P) (hR.sameHeap (w' := w.drew) rfl |>.at_ hy hl) hol
        have hfirst : ∀ c, (Builtin.firstCells sz len (.slice (some ⟨l.blk, l.off + o, none⟩) len c)).run P w.drew = .ok olds.toArray w.drew := fun c => by simp only [Builtin.firstCells]; exact hold
        split at h
        · cases h
          -- closed: a new row for certain
          simp only [freshRow, setAll, Option.some.injEq] at hset hfin
          subst hset
          split at hfin
          · cases hfin
          · rename_i hn
            simp only [Option.some.injEq, Prod.mk.injEq] at hfin
            obtain ⟨rfl, rfl, rfl⟩ := hfin
            obtain ⟨z, hz, hrun⟩ := run_append_grows (cap := cap) (base := some ⟨l.blk, l.off + o, none⟩) A (ty := ty) (hlen w) (hfirst cap) hsrc' (by omega) hroomy
            have hge := grownCap_ge w (len + n) cap e
            obtain ⟨f1, f2, f3⟩ := fresh_ok (e := e) (z := z) hR hn (hro.append hr') hz hge
            exact ⟨_, _, _, by simpa using hrun, f2, Rho.le_upd (hR.unset hn), f1, f3⟩
        · split at h
          · rename_i hwr ht hsz hend hlc
            cases h
            have ht := Nat.eq_of_beq_eq_true ht
            have hsz := Nat.eq_of_beq_eq_true hsz
            have hend := Nat.eq_of_beq_eq_true hend
            have hlc := Nat.le_of_ble_eq_true hlc
            subst ht; subst hsz
            have hp' := setAll_one hset
            subst hp'
            simp only at hfin
            split at hfin
            · cases hfin
            · rename_i hn
              simp only [Option.some.injEq, Prod.mk.injEq] at hfin
              obtain ⟨rfl, rfl, rfl⟩ := hfin
              have hbn : b ≠ nid := fun e => by rw [PTree.get_set, if_pos e] at hn; cases hn
              have hn' : σ.hp.get nid = none := by rw [PTree.get_set, if_neg hbn] at hn; exact hn
              by_cases hin : len + n ≤ cap + l.extra
              · -- in its place
                obtain ⟨arr, tt, lo, hi, g1, g2, g3, g4, g5, g6⟩ := hblk
                have hbl : base.mod l.blk := g4 rfl
                have hvl := hr.1
                have hmul : (len + n) * sz' ≤ (cap + l.extra) * sz' := Nat.mul_le_mul_right _ hin
                rw [Nat.add_mul, Nat.add_mul] at hmul
                obtain ⟨w', arr', hrun, hs', hrow, hasz, hget⟩ := run_storeCells_row (P := P) (b := l.blk) (o := l.off + o + len * sz') vs 0 w arr g1 (by omega) (g5 rfl) (oneCells_of hok hr)
                have hle := Rho.le_upd (l := ⟨l.blk, l.off + o, cap + l.extra - (len + n)⟩) (hR.unset hn')
                have hnew : BlkRel (ρ.upd nid ⟨l.blk, l.off + o, cap + l.extra - (len + n)⟩) base w' ⟨l.blk, l.off + o, cap + l.extra - (len + n)⟩ (.row ((cells.drop o).take (len * sz') ++ new) t sz' true true) := by
                  have hdl : ((cells.drop o).take (len * sz')).length = len * sz' := by simp; omega
                  refine ⟨arr', tt, lo, hi, hrow, ?_, (fun h => by cases h), fun _ => hbl, by rw [hasz]; exact g5, fun i x vv hx hv => ?_⟩
                  · simp only [List.length_append, hdl, hnl, hasz]
                    have : (cap + l.extra - (len + n)) * sz' = (cap + l.extra) * sz' - (len + n) * sz' := Nat.sub_mul ..
                    rw [this, Nat.add_mul, Nat.add_mul]
                    omega
                  · rw [hget] at hv
                    by_cases hi' : i < len * sz'
                    · rw [List.getElem?_append_left (by rw [hdl]; exact hi'), List.getElem?_take, if_pos hi', List.getElem?_drop] at hx
                      rw [if_neg (by simp only; omega)] at hv
                      refine (g6 (o + i) x vv hx ?_).mono hle
                      rw [← hv]; congr 1; simp only; omega
                    · rw [List.getElem?_append_right (by rw [hdl]; omega), hdl] at hx
                      have hi2 : i - len * sz' < new.length := (List.getElem?_eq_some_iff.1 hx).1
                      rw [if_pos (by simp only; omega)] at hv
                      refine (hr.2 _ x vv hx ?_).mono hle
                      rw [← hv]; congr 1; simp only; omega
                refine ⟨_, w', _, run_append_fits A (hlen w) hsrc (by simpa using hin) (by rw [addr_add]; exact hrun), ?_, hle, hR.take hy hl rfl hn' rfl hs' hbl hnew, hs'.below hbl⟩
                exact VR.openSlice (l := ⟨l.blk, l.off + o, cap + l.extra - (len + n)⟩) Rho.upd_same (by simp only [if_true]; omega)
              · -- in new memory
                obtain ⟨z, hz, hrun⟩ := run_append_grows (cap := cap + l.extra) (base := some ⟨l.blk, l.off + o, none⟩) A (ty := ty) (hlen w) (hfirst _) hsrc' (by omega) hroomy
                have hge := grownCap_ge w (len + n) (cap + l.extra) t
                obtain ⟨f1, f2, f3⟩ := fresh_ok (e := t) (z := z) (hR.kill hy) hn (hro.append hr') hz hge
                exact ⟨_, _, _, by simpa using hrun, f2, Rho.le_upd (hR.unset hn'), f1, f3⟩
          · cases h
      · cases h
  · cases h

theorem appendA_ok {ts : Array TypeId} {ty : TypeId} {s x : AV} {sv xv : Value} (hR : Rel base ρ σ w) (hs : VR ρ s sv) (hx : VR ρ x xv) (h : (appendA P ts s x).run nid σ = some (v, σ', u)) :
    OkV P base ρ w (Builtin.append_ ts ty #[sv, xv]) v σ' := by
  unfold appendA at h
  split at h
  · exact (run_fail h).elim
  · rename_i st hst
    split at h
    · rename_i e he hni
      split at h
      · rename_i sz z by_ src hsz hzc hby hsrc
        split at h
        · rename_i h1 h2
          have h1 := Nat.eq_of_beq_eq_true h1
          have h2 := Nat.le_of_ble_eq_true h2
          obtain ⟨i, zv, hi, hzv, hzr⟩ := zeroC_ok (ρ := ρ) hzc
          have A : App P ts e sz by_ := ⟨⟨st, hst, elemOfSlice_ok he⟩, hni, ⟨i, zv, hi, hzv, bytesT_ok hby hi, sizeT_eq hsz hi, by have := hzr.1; simp only [Array.length_toList] at this; omega⟩, h2⟩
          have hlen := fun w => run_lenOf (P := P) hx hsrc w
          have hRd : Rel base ρ σ w.drew := hR.sameHeap rfl
          split at h
          · cases hs
            split at h
            · rename_i h0
              obtain ⟨rfl, rfl⟩ := run_val h
              refine .pure hR (v := .slice none 0 0) ?_ .nils
              obtain ⟨st', hst', hu⟩ := A.st
              obtain ⟨xt, d, hx1, hx2, hx3⟩ := notInt_ok A.xt
              unfold Builtin.append_
              simp only [hst', hx1, List.getElem?_toArray, List.getElem?_cons_zero, List.getElem?_cons_succ, Sem.run_bind, run_underlying hu, run_underlying hx2, Result.andThen, (sizeT_ok hsz).2, Sem.run_pure]
              have hl0 : ∀ w, (Builtin.lenOf xv).run P w = .ok 0 w := fun w => by rw [hlen w, h0]
              have hnew : ∃ vs : List Value, (Builtin.firstCells sz 0 xv).run P w = .ok vs.toArray w := by
                cases x <;> simp only [srcA] at hsrc <;> first | (cases hsrc; done) | skip
                · cases hx with
                  | str hb => exact ⟨_, by simp only [Builtin.firstCells, Sem.run_pure]; exact congrArg (fun a => Result.ok a w) (Array.toArray_toList (xs := (Array.map (fun (b : UInt8) => Value.int .u8 b.toNat) (ByteArray.extract _ 0 0).data))).symm⟩
                · cases hx; exact ⟨[], by simp [Builtin.firstCells, Sem.run_pure]⟩
                · cases hx; exact ⟨[], by simp [Builtin.firstCells, loadCells, loadCellsFrom, Sem.run_pure]⟩
                · cases hx; exact ⟨[], by simp [Builtin.firstCells, loadCells, loadCellsFrom, Sem.run_pure]⟩
              obtain ⟨vs, hvs⟩ := hnew
              cases d <;> first
                | exact absurd rfl (hx3 _)
                | simp only [Sem.run_bind, Result.andThen, Bool.false_eq_true, if_false, hl0, Nat.add_zero, Nat.le_refl, if_true, Bool.not_false, hvs, Sem.run_pure]
            · rename_i n hn0
              split at h
              · rename_i hroomy
                have grow : ∀ (new : List AV) (vs : List Value), (Builtin.firstCells sz src.n xv).run P w.drew = .ok vs.toArray w.drew → VRs ρ new vs → ∀ n', n' = src.n → σ.hp.get nid = none → v = .sl nid 0 n' n' true → σ' = { σ with hp := σ.hp.set (.row new e sz true true) nid } →
                    OkV P base ρ w (Builtin.append_ ts ty #[.slice none 0 0, xv]) v σ' := by
                  rintro new vs hrun hr n' rfl hn rfl rfl
                  have hpos : 0 < src.n := Nat.pos_of_ne_zero hn0
                  obtain ⟨z', hz', hrun'⟩ := run_append_grows (len := 0) (cap := 0) (base := none) (old := []) A (ty := ty) (hlen w) (by simp [Builtin.firstCells, Sem.run_pure]) hrun (by omega) (by simpa using hroomy)
                  have hge := grownCap_ge w (0 + src.n) 0 e
                  obtain ⟨f1, f2, f3⟩ := fresh_ok (e := e) (z := z') hR hn hr hz' hge
                  simp only [Nat.zero_add, List.nil_append] at hrun' f1 f2 f3
                  exact ⟨_, _, _, hrun', f2, Rho.le_upd (hR.unset hn), f1, f3⟩
                split at h
                · rename_i l n'
                  split at h
                  · rename_i new hnew
                    obtain ⟨vs, hrun, hr, _⟩ := run_src (P := P) hRd hx hsrc (y := none) (by intro b o n e; cases e) hnew
                    simp only [Deed.run, getAll, freshRow, setAll] at h
                    split at h
                    · cases h
                    · rename_i hn
                      simp only [Option.some.injEq, Prod.mk.injEq] at h
                      obtain ⟨rfl, rfl, rfl⟩ := h
                      exact grow new vs hrun hr n' rfl hn rfl rfl
                  · exact (run_fail h).elim
                · rename_i c oc n'
                  simp only [Deed.run, getAll] at h
                  cases hc : σ.hp.get c with
                  | none => simp [hc] at h
                  | some y =>
                    simp only [hc] at h
                    cases hnew : srcCells sz (.of c oc n') (some y) with
                    | none => simp [hnew] at h
                    | some new =>
                      obtain ⟨vs, hrun, hr, _⟩ := run_src (P := P) hRd hx hsrc (y := some y) (by intro b o n e; cases e; exact hc) hnew
                      simp only [hnew, freshRow, setAll] at h
                      split at h
                      · cases h
                      · rename_i hn
                        simp only [Option.some.injEq, Prod.mk.injEq] at h
                        obtain ⟨rfl, rfl, rfl⟩ := h
                        exact grow new vs hrun hr n' rfl hn rfl rfl
              · exact (run_fail h).elim
          · rename_i b o len cap opn
            cases hs with
            | sl hl =>
              rename_i l
              split at h
              · rename_i lc n
                split at h
                · rename_i new hnew
                  split at h
                  · rename_i hok
                    obtain ⟨vs, hrun, hr, hnl⟩ := run_src (P := P) hR hx hsrc (y := none) (by intro b o n e; cases e) hnew
                    obtain ⟨vs', hrun', hr', _⟩ := run_src (P := P) hRd hx hsrc (y := none) (by intro b o n e; cases e) hnew
                    simp only [Deed.run, getAll] at h
                    cases hb : σ.hp.get b with
                    | none => simp [hb] at h
                    | some y =>
                      simp only [hb] at h
                      cases hap : appendTo e sz by_ b o len cap opn n new y with
                      | none => simp [hap] at h
                      | some r =>
                        simp only [hap] at h
                        cases hset : setAll σ.lo r.upd σ.hp with
                        | none => simp [hset] at h
                        | some hp =>
                          simp only [hset] at h
                          exact appendTo_ok A hR hl hb hap hlen hrun hrun' hr hr' hnl hok hset h
                  · exact (run_fail h).elim
                · exact (run_fail h).elim
              · rename_i c oc n
                simp only [Deed.run, getAll] at h
                cases hb : σ.hp.get b with
                | none => simp [hb] at h
                | some y =>
                  cases hc : σ.hp.get c with
                  | none => simp [hb, hc] at h
                  | some y' =>
                    simp only [hb, hc] at h
                    cases hnew : srcCells sz (.of c oc n) (some y') with
                    | none => simp [hnew] at h
                    | some new =>
                      simp only [hnew] at h
                      cases hok : allOk new with
                      | false => simp [hok] at h
                      | true =>
                        simp only [hok] at h
                        obtain ⟨vs, hrun, hr, hnl⟩ := run_src (P := P) hR hx hsrc (y := some y') (by intro b o n e; cases e; exact hc) hnew
                        obtain ⟨vs', hrun', hr', _⟩ := run_src (P := P) hRd hx hsrc (y := some y') (by intro b o n e; cases e; exact hc) hnew
                        cases hap : appendTo e sz by_ b o len cap opn n new y with
                        | none => simp [hap] at h
                        | some r =>
                          simp only [hap] at h
                          cases hset : setAll σ.lo r.upd σ.hp with
                          | none => simp [hset] at h
                          | some hp =>
                            simp only [hset] at h
                            exact appendTo_ok A hR hl hb hap hlen hrun hrun' hr hr' hnl hok hset h
          · exact (run_fail h).elim
        · exact (run_fail h).elim
      · exact (run_fail h).elim
    · exact (run_fail h).elim

end
end Go.Ev

namespace Go.Ev

section
variable {P : Program} {ρ : Rho} {base : Bd} {σ σ' : St} {w : World} {nid : Pos} {u : Bool} {v : AV}

/-- What an operation comes to beside the abstract one. -/
def DoneOp (P : Program) (base : Bd) (ρ : Rho) (w : World) (s : Sem Next) (v : AV) (σ' : St) : Prop :=
  ∃ nx w' ρ' v', s.run P w = .ok nx w' ∧ (nx = .value v' ∨ nx = .skip ∧ v' = undef) ∧ VR ρ' v v' ∧ ρ.le ρ' ∧ Rel base ρ' σ' w' ∧ Bel base w w'

theorem OkV.done {s : Sem Value} (h : OkV P base ρ w s v σ') : DoneOp P base ρ w (do Pure.pure (Next.value (← s)) : Sem Next) v σ' := by
  obtain ⟨v', w', ρ', h1, h2, h3, h4, h5⟩ := h
  exact ⟨.value v', w', ρ', v', by simp only [Sem.run_bind, h1, Result.andThen, Sem.run_pure], .inl rfl, h2, h3, h4, h5⟩

theorem OkU.done {s : Sem Unit} (hv : v = .und) (h : OkU P base ρ w s σ') : DoneOp P base ρ w (do s; Pure.pure Next.skip : Sem Next) v σ' := by
  obtain ⟨w', ρ', h1, h3, h4, h5⟩ := h
  subst hv
  exact ⟨.skip, w', ρ', undef, by simp only [Sem.run_bind, h1, Result.andThen, Sem.run_pure], .inr ⟨rfl, rfl⟩, .und _, h3, h4, h5⟩

theorem done_val {x : Value} {s : Sem Next} (hR : Rel base ρ σ w) (hs : s.run P w = .ok (.value x) w) (h : VR ρ v x) : DoneOp P base ρ w s v σ :=
  ⟨.value x, w, ρ, x, hs, .inl rfl, h, Rho.le_refl _, hR, Bel.refl _ _⟩

theorem VRs.of_map {e : Operand → AV} {r : Operand → Value} (hE : ∀ x, VR ρ (e x) (r x)) (xs : List Operand) : VRs ρ (xs.map e) (xs.map r) := by
  refine ⟨by simp, fun i x v hx hv => ?_⟩
  simp only [List.getElem?_map] at hx hv
  cases hxs : xs[i]? with
  | none => rw [hxs] at hx; cases hx
  | some y =>
    rw [hxs] at hx hv
    simp only [Option.map_some, Option.some.injEq] at hx hv
    subst hx; subst hv; exact hE y

theorem VRs.of_mapA {e : Operand → AV} {r : Operand → Value} (hE : ∀ x, VR ρ (e x) (r x)) (xs : Array Operand) : VRs ρ (xs.toList.map e) (xs.map r).toList := by
  rw [Array.toList_map]; exact .of_map hE _

theorem PRs.of_map {e : Operand → AV} {r : Operand → Value} (hE : ∀ x, VR ρ (e x) (r x)) (ps : Array (Nat × Operand)) : PRs ρ (ps.toList.map fun p => (p.1, e p.2)) (ps.map fun (i, x) => (i, r x)).toList := by
  rw [Array.toList_map]
  refine ⟨by simp, fun i x v hx hv => ?_⟩
  simp only [List.getElem?_map] at hx hv
  cases hxs : ps.toList[i]? with
  | none => rw [hxs] at hx; cases hx
  | some y =>
    rw [hxs] at hx hv
    simp only [Option.map_some, Option.some.injEq] at hx hv
    subst hx; subst hv; exact ⟨rfl, hE y.2⟩

theorem optR.of_map {e : Operand → AV} {r : Operand → Value} (hE : ∀ x, VR ρ (e x) (r x)) (x : Option Operand) : optR ρ (x.map e) (x.map r) := by
  cases x with
  | none => trivial
  | some x => exact hE x

theorem builtinA_ok {b : Builtin} {ts : Array TypeId} {ty : TypeId} {cs : Array Bool} {xs : List AV} {vs : Array Value} (hR : Rel base ρ σ w) (hr : VRs ρ xs vs.toList) (h : (builtinA P b ts xs).run nid σ = some (v, σ', u)) :
    DoneOp P base ρ w (builtin b ts ty cs vs) v σ' := by
  unfold builtinA at h
  split at h
  · rename_i x
    split at h
    · rename_i t ht
      obtain ⟨xv, hxv, hx⟩ := hr.get (i := 0) rfl
      have : vs = #[xv] := by
        have hl := hr.1
        apply Array.ext'
        cases hvs : vs.toList with
        | nil => rw [hvs] at hxv; cases hxv
        | cons a l =>
          rw [hvs] at hl hxv
          simp at hl hxv
          subst hxv
          cases l with
          | nil => rfl
          | cons _ _ => simp at hl
      subst this
      exact (lenA_ok hR hx ht h).done
    · exact (run_fail h).elim
  · rename_i s x
    obtain ⟨sv, hsv, hs⟩ := hr.get (i := 0) rfl
    obtain ⟨xv, hxv, hx⟩ := hr.get (i := 1) rfl
    have : vs = #[sv, xv] := by
      have hl := hr.1
      apply Array.ext'
      cases hvs : vs.toList with
      | nil => rw [hvs] at hsv; cases hsv
      | cons a l =>
        rw [hvs] at hl hsv hxv
        simp at hl hsv
        subst hsv
        cases l with
        | nil => simp at hl
        | cons b l =>
          simp at hxv hl
          subst hxv
          rw [hl]
    subst this
    exact (appendA_ok hR hs hx h).done
  · rename_i x r
    obtain ⟨hf, rfl⟩ := run_ofOption h
    cases hvs : vs.toList with
    | nil => have := hr.1; rw [hvs] at this; simp at this
    | cons xv rv =>
      rw [hvs] at hr
      have h0 := hr.2 0 x xv rfl rfl
      have ht : VRs ρ r rv := ⟨by have := hr.1; simpa using this, fun i y u a b => hr.2 (i + 1) y u (by simpa using a) (by simpa using b)⟩
      obtain ⟨z, hz1, hz2⟩ := fold_ok (P := P) true r rv x xv w h0 ht hf
      refine OkV.done (s := Builtin.max_ ts ty vs) (.pure hR (v := z) ?_ hz2)
      unfold Builtin.max_
      simp only [hvs]
      exact hz1
  · rename_i x r
    obtain ⟨hf, rfl⟩ := run_ofOption h
    cases hvs : vs.toList with
    | nil => have := hr.1; rw [hvs] at this; simp at this
    | cons xv rv =>
      rw [hvs] at hr
      have h0 := hr.2 0 x xv rfl rfl
      have ht : VRs ρ r rv := ⟨by have := hr.1; simpa using this, fun i y u a b => hr.2 (i + 1) y u (by simpa using a) (by simpa using b)⟩
      obtain ⟨z, hz1, hz2⟩ := fold_ok (P := P) false r rv x xv w h0 ht hf
      refine OkV.done (s := Builtin.min_ ts ty vs) (.pure hR (v := z) ?_ hz2)
      unfold Builtin.min_
      simp only [hvs]
      exact hz1
  · rename_i x
    split at h
    · rename_i t ht
      obtain ⟨xv, hxv, hx⟩ := hr.get (i := 0) rfl
      have : vs = #[xv] := by
        have hl := hr.1
        apply Array.ext'
        cases hvs : vs.toList with
        | nil => rw [hvs] at hxv; cases hxv
        | cons a l =>
          rw [hvs] at hl hxv
          simp at hl hxv
          subst hxv
          cases l with
          | nil => rfl
          | cons _ _ => simp at hl
      subst this
      exact (clearA_ok hR hx ht h).done
    · exact (run_fail h).elim
  · exact (run_fail h).elim

/-! ### Ranges over a string -/

theorem rangeA_ok {t : TypeId} {x : AV} {xv : Value} (hR : Rel base ρ σ w) (hx : VR ρ x xv) (h : (rangeA P t x).run nid σ = some (v, σ', u)) : OkV P base ρ w (Instr.range t xv) v σ' := by
  unfold rangeA at h
  split at h
  · rename_i s hu
    obtain ⟨rfl, rfl, hn⟩ := run_new h
    generalize hxv : xv = y at hx
    cases hx with
    | str e =>
      rename_i b
      subst e
      refine ⟨.pointer (some ⟨w.heap.size, 0, none⟩), w.alloc (.stringIter b 0), ρ.upd nid ⟨w.heap.size, 0, 0⟩, ?_, .ptr (l := ⟨w.heap.size, 0, 0⟩) Rho.upd_same, Rho.le_upd (hR.unset hn), ?_, (Bel.refl _ _).alloc hR.le _⟩
      · simp only [Instr.range, Sem.run_bind, run_underlying hu, Result.andThen, Sem.run_pure, run_newObj_alloc]
      · exact hR.new hn rfl ⟨b, World.alloc_heap_new _ _, rfl, hR.mine, rfl⟩
  · exact (run_fail h).elim

theorem bytesOf_get {b : ByteArray} {pos c : Nat} (h : (bytesOf b)[pos]? = some c) : ∃ hp : pos < b.size, (b[pos]'hp).toNat = c := by
  unfold bytesOf at h
  rw [List.getElem?_map] at h
  cases hb : b.data.toList[pos]? with
  | none => rw [hb] at h; cases h
  | some y =>
    rw [hb] at h
    simp only [Option.map_some, Option.some.injEq] at h
    obtain ⟨hp, hy⟩ := List.getElem?_eq_some_iff.1 hb
    refine ⟨by simpa using hp, ?_⟩
    rw [← h, ← hy]
    rfl

theorem nextA_ok {x : AV} {xv : Value} {ty : TypeId} (hR : Rel base ρ σ w) (hx : VR ρ x xv) (h : (nextA x).run nid σ = some (v, σ', u)) : OkV P base ρ w (Instr.next xv true ty) v σ' := by
  unfold nextA at h
  split at h
  · rename_i b o
    split at h
    · rename_i ho
      have ho := Nat.eq_of_beq_eq_true ho
      subst ho
      obtain ⟨y, y', hy, hk, rfl⟩ := run_write h
      cases hx with
      | ptr hl =>
        rename_i l
        split at hk
        · rename_i s pos
          obtain ⟨ba, h1, h2, h3, h4⟩ := hR.at_ hy hl
          rw [h4]
          split at hk
          · rename_i c hc
            split at hk
            · rename_i hlt
              have hlt : c < 128 := Nat.le_of_ble_eq_true hlt
              simp only [Option.some.injEq, Prod.mk.injEq] at hk
              obtain ⟨rfl, rfl⟩ := hk
              rw [← h2] at hc
              obtain ⟨hp, hcc⟩ := bytesOf_get hc
              have hsb : SameBut w (w.putObj l.blk (.stringIter ba (pos + 1))) l.blk := ⟨rfl, rfl, rfl, World.putObj_size, fun _ hj => World.putObj_heap_other hj⟩
              refine ⟨.tuple #[.bool true, .int .i64 pos, .int .i32 (ba[pos]'hp).toNat], w.putObj l.blk (.stringIter ba (pos + 1)), ρ, ?_, ?_, Rho.le_refl _, ?_, hsb.below h3⟩
              · have hd := decode_ascii ba pos hp (by rw [hcc]; exact hlt)
                simp only [Instr.next, getObj, setObj, Sem.run_bind, Sem.run, h1, Result.andThen, hp, if_true, hd, World.putObj]
                rfl
              · rw [hcc]
                exact VRs.to_tup (vs := [.bool true, .int .i64 pos, .int .i32 c]) (.cons (.bool true) (.cons (.int _ _) (.cons (.int _ _) (.nil _))))
              · refine hR.upd hy hl rfl hsb h3 ⟨ba, World.putObj_heap_same ((Array.getElem?_eq_some_iff.1 h1).1), h2, h3, h4⟩
            · cases hk
          · rename_i hc
            simp only [Option.some.injEq, Prod.mk.injEq] at hk
            obtain ⟨rfl, rfl⟩ := hk
            have hp : ¬ pos < ba.size := by
              intro hp
              rw [← h2] at hc
              have := List.getElem?_eq_none_iff.1 hc
              rw [bytesOf_length] at this
              omega
            refine ⟨.tuple #[.bool false], w, ρ, ?_, VRs.to_tup (vs := [.bool false]) (.cons (.bool false) (.nil _)), Rho.le_refl _, ?_, Bel.refl _ _⟩
            · simp [Instr.next, getObj, Sem.run, h1, hp]
            · exact hR.upd hy hl rfl (SameBut.refl w l.blk) h3 ⟨ba, h1, h2, h3, h4⟩
        · cases hk
    · exact (run_fail h).elim
  · exact (run_fail h).elim

theorem deed_ok {o : Oper} {e : Operand → AV} {r : Operand → Value} (hE : ∀ x, VR ρ (e x) (r x)) (hR : Rel base ρ σ w) (h : (deed P o e).run nid σ = some (v, σ', u)) : DoneOp P base ρ w (execOp r o) v σ' := by
  obtain ⟨dst, op, ty, pos, after, guard⟩ := o
  cases op <;> simp only [deed] at h <;> first | exact (run_fail h).elim | skip
  case move x =>
    obtain ⟨rfl, rfl⟩ := run_val h
    exact done_val hR (x := r x) (by simp only [execOp, Sem.run_pure]) (hE x)
  case assign x =>
    obtain ⟨rfl, rfl⟩ := run_val h
    exact done_val hR (x := r x) (by simp only [execOp, Sem.run_pure]) (hE x)
  case pick c a b =>
    have hc := hE c
    split at h
    · rename_i he
      obtain ⟨rfl, rfl⟩ := run_val h
      rw [he] at hc
      generalize hcv : r c = cv at hc
      cases hc
      exact done_val hR (x := r a) (by simp only [execOp, hcv, asBool, Sem.run_bind, Sem.run_pure, Result.andThen, if_true]) (hE a)
    · rename_i he
      obtain ⟨rfl, rfl⟩ := run_val h
      rw [he] at hc
      generalize hcv : r c = cv at hc
      cases hc
      exact done_val hR (x := r b) (by simp only [execOp, hcv, asBool, Sem.run_bind, Sem.run_pure, Result.andThen, Bool.false_eq_true, if_false]) (hE b)
    · exact (run_fail h).elim
  case alloc t =>
    split at h
    · rename_i cs hz; exact (alloc_ok hR hz h).done
    · exact (run_fail h).elim
  case box t x =>
    split at h
    · rename_i cs hc; exact (box_ok hR (hE x) hc h).done
    · exact (run_fail h).elim
  case build t ps =>
    obtain ⟨hb, rfl⟩ := run_ofOption h
    exact (buildA_ok hR (PRs.of_map hE ps) hb).done
  case buildSlice t n ps => exact (litA_ok hR (PRs.of_map hE ps) h).done
  case load t x => exact (loadA_ok hR (hE x) h).done
  case store t x y => obtain ⟨hv, hu⟩ := storeA_ok hR (hE x) (hE y) h; exact hu.done hv
  case nilCheck x =>
    have hx := hE x
    split at h
    · rename_i b o he
      obtain ⟨rfl, rfl⟩ := run_val h
      rw [he] at hx
      generalize hxv : r x = xv at hx
      have hx' := hx
      cases hx
      exact done_val hR (by simp only [execOp, hxv, Sem.run_pure]) hx'
    · rename_i f a b he
      obtain ⟨rfl, rfl⟩ := run_val h
      rw [he] at hx
      generalize hxv : r x = xv at hx
      have hx' := hx
      cases hx
      exact done_val hR (by simp only [execOp, hxv, Sem.run_pure]) hx'
    · exact (run_fail h).elim
  case binOp op t x y _ =>
    obtain ⟨hb, rfl⟩ := run_ofOption h
    exact (binA_ok hR (hE x) (hE y) hb).done
  case unOp op _ x =>
    obtain ⟨hb, rfl⟩ := run_ofOption h
    exact (unA_ok hR (hE x) hb).done
  case convert s d x => exact (convA_ok hR (hE x) h).done
  case makeInterface t x =>
    split at h
    · exact (run_fail h).elim
    · rename_i d hd hu
      obtain ⟨rfl, rfl⟩ := run_val h
      refine OkV.done (s := Instr.makeInterface t (r x)) (.pure hR (v := .iface t (r x)) ?_ (.ifc (hE x)))
      unfold Instr.makeInterface
      simp only [Sem.run_bind, run_underlying hu, Result.andThen]
      cases d <;> first | exact absurd rfl (hd _) | simp only [Sem.run_pure]
    · exact (run_fail h).elim
  case makeFunc fn xs ys =>
    split at h
    · rename_i f
      obtain ⟨rfl, rfl⟩ := run_val h
      have hx := VRs.of_mapA hE xs
      have hy := VRs.of_mapA hE ys
      refine done_val hR (x := .func (.func f) (xs.map r) (ys.map r)) (by simp only [execOp, Instr.makeFunc, Sem.run_bind, Sem.run_pure, Result.andThen]) (.fn (by simp) (fun i x v a b => hx.2 i x v a (by simpa using b)) (by simp) (fun i x v a b => hy.2 i x v a (by simpa using b)))
    · exact (run_fail h).elim
  case makeMap t rs =>
    split at h
    · obtain ⟨rfl, rfl, hn⟩ := run_new h
      refine OkV.done (s := Instr.makeMap t none) ⟨.map (some w.heap.size), w.alloc (.map #[] 0), ρ.upd nid ⟨w.heap.size, 0, 0⟩, ?_, .mp (l := ⟨w.heap.size, 0, 0⟩) Rho.upd_same, Rho.le_upd (hR.unset hn), ?_, (Bel.refl _ _).alloc hR.le _⟩
      · simp only [Instr.makeMap, Sem.run_bind, Sem.run_pure, Result.andThen, run_newObj_alloc]
      · exact hR.new hn rfl ⟨#[], World.alloc_heap_new _ _, hR.mine, rfl, fun i k v n e a _ => by simp at a⟩
    · exact (run_fail h).elim
  case makeSlice t l c => exact (makeSliceA_ok hR (hE l) (hE c) h).done
  case slice t x lo hi mx =>
    obtain ⟨hb, rfl⟩ := run_ofOption h
    exact (sliceA_ok hR (hE x) (optR.of_map hE lo) (optR.of_map hE hi) (optR.of_map hE mx) hb).done
  case fieldAddr s x f =>
    obtain ⟨hb, rfl⟩ := run_ofOption h
    exact (fieldAddrA_ok hR (hE x) hb).done
  case field s x f =>
    obtain ⟨hb, rfl⟩ := run_ofOption h
    exact (fieldA_ok hR (hE x) hb).done
  case indexAddr t x i =>
    obtain ⟨hb, rfl⟩ := run_ofOption h
    exact (indexAddrA_ok hR (hE x) (hE i) hb).done
  case index t x i =>
    obtain ⟨hb, rfl⟩ := run_ofOption h
    exact (indexA_ok hR (hE x) (hE i) hb).done
  case lookup t x i ok => exact (lookupA_ok hR (hE x) (hE i) h).done
  case mapUpdate t m k x => obtain ⟨hv, hu⟩ := mapPutA_ok hR (hE m) (hE k) (hE x) h; exact hu.done hv
  case insert t m k x => obtain ⟨hv, hu⟩ := mapPutA_ok hR (hE m) (hE k) (hE x) h; exact hu.done hv
  case typeAssert x xt t ok =>
    obtain ⟨hb, rfl⟩ := run_ofOption h
    exact (typeAssertA_ok hR (hE x) hb).done
  case extract x i =>
    have hx := hE x
    split at h
    · rename_i vs he
      obtain ⟨hb, rfl⟩ := run_ofOption h
      rw [he] at hx
      refine OkV.done (s := Instr.extract (r x) i) ?_
      generalize r x = xv at hx
      cases hx with
      | tup hl hh =>
        rename_i us
        have hr : VRs ρ vs us.toList := ⟨by simpa using hl, fun i x v a b => hh i x v a (by simpa using b)⟩
        obtain ⟨z, hz, hv⟩ := hr.get hb
        exact .pure hR (v := z) (by simp only [Array.getElem?_toList] at hz; simp only [Instr.extract, hz, Sem.run_pure]) hv
    · exact (run_fail h).elim
  case call c =>
    split at h
    · rename_i b hc
      have hr := VRs.of_mapA hE c.args
      have := builtinA_ok (P := P) (ty := ty) (cs := c.args.map fun | .const _ => true | _ => false) hR hr h
      have e1 : execOp r ⟨dst, .call c, ty, pos, after, guard⟩ = (do let d ← resolve r c ty; invoke d.target d.args) := rfl
      rw [e1]
      obtain ⟨nx, w', ρ', v', h1, h2⟩ := this
      refine ⟨nx, w', ρ', v', ?_, h2⟩
      simp only [resolve, hc, Sem.run_bind, Sem.run_pure, Result.andThen, invoke]
      exact h1
    · exact (run_fail h).elim
  case range t x => exact (rangeA_ok hR (hE x) h).done
  case next x b =>
    cases b with
    | true => exact (nextA_ok hR (hE x) h).done
    | false => exact (run_fail h).elim

end
end Go.Ev
