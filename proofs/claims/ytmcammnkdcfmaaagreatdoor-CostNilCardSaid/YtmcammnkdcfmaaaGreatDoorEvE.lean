/- Part EvE of the proof that CostNil answers true for every filter and every mood. Conditions: those that each theorem names. -/
import Derived.Test.YtmcammnkdcfmaaaGreatDoorEvD
import Derived.ChangeArms
import Derived.OpenShut
import Derived.FnData
namespace Go.Ev
noncomputable section --all

/-! ### Package-level variables that read as data -/

section
variable {P : Program}

def flatFields (P : Program) (g : TypeId → DataW Unit → Option (List AV)) : Nat → List Field → List (DataW Unit) → Option (List AV × Nat)
  | off, [], [] => some ([], off)
  | off, f :: fs, d :: ds => match Nat.beq f.offset off, g f.type d, flatFields P g (off + P.cellsOf f.type) fs ds with
    | true, some xs, some (ys, n) => some (xs ++ ys, n)
    | _, _, _ => none
  | _, _, _ => none

def flatAll (g : DataW Unit → Option (List AV)) : List (DataW Unit) → Option (List AV)
  | [] => some []
  | d :: ds => match g d, flatAll g ds with
    | some xs, some ys => some (xs ++ ys)
    | _, _ => none

/-- A datum's cells, where all of them are plain. -/
def flatA (P : Program) : Nat → TypeId → DataW Unit → Option (List AV)
  | 0, _, _ => none
  | n + 1, t, d => match P.underlying t, d with
    | some .bool, .lit (.bool b) => some [.bool b]
    | some (.int _), .lit (.int k i) => some [.int k i]
    | some .string, .lit (.string s) => some [.str (s.map UInt8.toNat)]
    | some (.struct fs), .agg ds => match flatFields P (flatA P n) 0 fs.toList ds with
      | some (xs, m) => match Nat.beq m (P.cellsOf t) with
        | true => some xs
        | false => none
      | none => none
    | some (.array m e), .agg ds => match Nat.beq (m * P.cellsOf e) (P.cellsOf t) with
      | true => flatAll (flatA P n e) ds
      | false => none
    | _, _ => none

theorem take_split {α : Type} (l : List α) (off s n : Nat) (h : off + s ≤ n) : (l.drop off).take (n - off) = (l.drop off).take s ++ (l.drop (off + s)).take (n - (off + s)) := by
  have e : n - off = s + (n - (off + s)) := by omega
  rw [e, List.take_add, List.drop_drop]

theorem flatFields_le {g : TypeId → DataW Unit → Option (List AV)} : ∀ (fs : List Field) (ds : List (DataW Unit)) (off n : Nat) (xs : List AV), flatFields P g off fs ds = some (xs, n) → off ≤ n := by
  intro fs
  induction fs with
  | nil =>
    intro ds off n xs h
    cases ds with
    | nil => simp only [flatFields, Option.some.injEq, Prod.mk.injEq] at h; omega
    | cons => simp [flatFields] at h
  | cons f fs ih =>
    intro ds off n xs h
    cases ds with
    | nil => simp [flatFields] at h
    | cons d ds =>
      simp only [flatFields] at h
      split at h
      · rename_i ys m _ _ hf
        simp only [Option.some.injEq, Prod.mk.injEq] at h
        have := ih _ _ _ _ hf
        omega
      · cases h

theorem flatFields_ok {ρ : Rho} {g : TypeId → DataW Unit → Option (List AV)} {w : World} {base : Nat} {spare : Nat → Bool} {held : Bool} {fuel : Nat} {cs : List Value}
    (hg : ∀ (t : TypeId) (d : DataW Unit) (xs : List AV) (cs : List Value) (x : DataW Unit × List MemPlace), g t d = some xs → DataW.trod (fun _ => ()) P w base spare held fuel t cs = some x → x.1 = d → VRs ρ xs cs) :
    ∀ (fs : List Field) (ds : List (DataW Unit)) (off n : Nat) (xs : List AV) (ps : List (DataW Unit × List MemPlace)), flatFields P g off fs ds = some (xs, n) → ps.map (·.1) = ds →
      (∀ (i : Nat) (f : Field), fs[i]? = some f → DataW.trod (fun _ => ()) P w base spare held fuel f.type ((cs.drop f.offset).take (P.cellsOf f.type)) = ps[i]?) → VRs ρ xs ((cs.drop off).take (n - off)) := by
  intro fs
  induction fs with
  | nil =>
    intro ds off n xs ps h hp hh
    cases ds with
    | nil =>
      simp only [flatFields, Option.some.injEq, Prod.mk.injEq] at h
      obtain ⟨rfl, rfl⟩ := h
      simp only [Nat.sub_self, List.take_zero]
      exact VRs.nil ρ
    | cons => simp [flatFields] at h
  | cons f fs ih =>
    intro ds off n xs ps h hp hh
    cases ds with
    | nil => simp [flatFields] at h
    | cons d ds =>
      cases ps with
      | nil => simp at hp
      | cons p ps =>
        simp only [List.map_cons, List.cons.injEq] at hp
        simp only [flatFields] at h
        split at h
        · rename_i x1 ys m ho hgx hf
          simp only [Option.some.injEq, Prod.mk.injEq] at h
          obtain ⟨rfl, rfl⟩ := h
          have ho := Nat.eq_of_beq_eq_true ho
          have hle := flatFields_le _ _ _ _ _ hf
          rw [take_split cs off (P.cellsOf f.type) m hle]
          have h0 := hh 0 f rfl
          rw [ho] at h0
          exact (hg f.type d x1 _ p hgx h0 hp.1).append (ih ds _ m ys ps hf hp.2 (fun i f' hf' => hh (i + 1) f' (by simpa using hf')))
        · cases h

theorem flatAll_ok {ρ : Rho} {g : DataW Unit → Option (List AV)} {w : World} {base : Nat} {spare : Nat → Bool} {held : Bool} {fuel : Nat} {e : TypeId} {cs : List Value} {s : Nat}
    (hg : ∀ (d : DataW Unit) (xs : List AV) (cs : List Value) (x : DataW Unit × List MemPlace), g d = some xs → DataW.trod (fun _ => ()) P w base spare held fuel e cs = some x → x.1 = d → VRs ρ xs cs) :
    ∀ (ds : List (DataW Unit)) (i : Nat) (xs : List AV) (ps : List (DataW Unit × List MemPlace)), flatAll g ds = some xs → ps.map (·.1) = ds →
      (∀ (j : Nat), j < ds.length → DataW.trod (fun _ => ()) P w base spare held fuel e ((cs.drop ((i + j) * s)).take s) = ps[j]?) → VRs ρ xs ((cs.drop (i * s)).take ((i + ds.length) * s - i * s)) := by
  intro ds
  induction ds with
  | nil =>
    intro i xs ps h hp hh
    simp only [flatAll, Option.some.injEq] at h
    subst h
    simp only [List.length_nil, Nat.add_zero, Nat.sub_self, List.take_zero]
    exact VRs.nil ρ
  | cons d ds ih =>
    intro i xs ps h hp hh
    cases ps with
    | nil => simp at hp
    | cons p ps =>
      simp only [List.map_cons, List.cons.injEq] at hp
      simp only [flatAll] at h
      split at h
      · rename_i x1 ys hgx hf
        cases h
        have e1 : i * s + s = (i + 1) * s := by rw [Nat.succ_mul]
        have e2 : (i + (d :: ds).length) * s = (i + 1 + ds.length) * s := by simp only [List.length_cons]; congr 1; omega
        rw [take_split cs (i * s) s _ (by rw [e2, Nat.add_mul, e1]; omega), e2, e1]
        have h0 := hh 0 (by simp)
        simp only [Nat.add_zero] at h0
        refine (hg d x1 _ p hgx h0 hp.1).append (ih (i + 1) ys ps hf hp.2 (fun j hj => ?_))
        have := hh (j + 1) (by simp only [List.length_cons]; omega)
        rw [show i + (j + 1) = i + 1 + j by omega] at this
        simpa using this
      · cases h

theorem flatA_ok {ρ : Rho} {w : World} {base : Nat} {spare : Nat → Bool} {held : Bool} : ∀ (n fuel : Nat) (t : TypeId) (d : DataW Unit) (xs : List AV) (cs : List Value) (x : DataW Unit × List MemPlace),
    flatA P n t d = some xs → DataW.trod (fun _ => ()) P w base spare held fuel t cs = some x → x.1 = d → VRs ρ xs cs := by
  intro n
  induction n with
  | zero => intro fuel t d xs cs x h; cases h
  | succ n ih =>
    intro fuel t d xs cs x h ht hx
    simp only [flatA] at h
    split at h
    · rename_i b hu
      obtain ⟨b', rfl, rfl⟩ := DataW.trod_bool hu ht
      cases h
      simp only [DataW.lit.injEq, Lit.bool.injEq] at hx
      subst hx
      exact .cons (.bool _) (.nil _)
    · rename_i k0 k i hu
      obtain ⟨m, rfl, rfl, _⟩ := DataW.trod_int hu ht
      cases h
      simp only [DataW.lit.injEq, Lit.int.injEq] at hx
      obtain ⟨rfl, rfl⟩ := hx
      exact .cons (.int _ _) (.nil _)
    · rename_i s hu
      obtain ⟨b, rfl, rfl, _⟩ := DataW.trod_string hu ht
      cases h
      simp only [DataW.lit.injEq, Lit.string.injEq] at hx
      subst hx
      exact .cons (.str rfl) (.nil _)
    · rename_i fs ds hu
      obtain ⟨ps, m, rfl, rfl, hl, hn, hel⟩ := DataW.trod_struct hu ht
      split at h
      · rename_i ys tot hf
        split at h
        · rename_i hb
          cases h
          have hb := Nat.eq_of_beq_eq_true hb
          simp only [DataW.agg.injEq] at hx
          have := flatFields_ok (ρ := ρ) (cs := cs) (fun t d xs cs x a b c => ih m t d xs cs x a b c) fs.toList ds 0 tot xs ps hf hx (fun i f hf => hel i f (by simpa using hf))
          rw [List.drop_zero, Nat.sub_zero, hb, ← hl, List.take_length] at this
          exact this
        · cases h
      · cases h
    · rename_i m e ds hu
      obtain ⟨ps, fu, rfl, rfl, hl, hn, hel⟩ := DataW.trod_array hu ht
      split at h
      · rename_i hb
        have hb := Nat.eq_of_beq_eq_true hb
        simp only [DataW.agg.injEq] at hx
        have hlen : ds.length = m := by rw [← hx, List.length_map, hn]
        have := flatAll_ok (ρ := ρ) (cs := cs) (e := e) (s := P.cellsOf e) (fun d xs cs x a b c => ih fu e d xs cs x a b c) ds 0 xs ps h hx (fun j hj => by
          rw [Nat.zero_add]; exact hel j (by rw [← hlen]; exact hj))
        simp only [Nat.zero_mul, List.drop_zero, Nat.sub_zero, Nat.zero_add] at this
        rw [hlen, hb, ← hl, List.take_length] at this
        exact this
      · cases h
    · cases h

end
end --all
end Go.Ev

namespace Go.Ev
noncomputable section --all

/-! ### The beginning: package-level variables -/

def deads : Nat → PTree ABlk → PTree ABlk
  | 0, t => t
  | n + 1, t => deads n (t.set .dead (Pos.ofSucc n))

def setRows : List (Nat × List AV) → PTree ABlk → PTree ABlk
  | [], t => t
  | (g, cs) :: l, t => setRows l (t.set (.row cs 0 1 false false) (Pos.ofSucc g))

/-- The state at the beginning: nG package-level variables; what some of them hold. -/
def start (nG : Nat) (rows : List (Nat × List AV)) : St := ⟨setRows rows (deads nG .leaf), Pos.ofSucc nG, 0⟩

def rho0 (nG : Nat) : Rho := fun b => match Nat.ble b.toNat nG with
  | true => some ⟨b.toNat - 1, 0, 0⟩
  | false => none

theorem rho0_ofSucc {nG g : Nat} (h : g < nG) : rho0 nG (Pos.ofSucc g) = some ⟨g, 0, 0⟩ := by
  unfold rho0
  rw [Pos.toNat_ofSucc, Nat.ble_eq_true_of_le h]
  simp

theorem ofSucc_pred (b : Pos) : Pos.ofSucc (b.toNat - 1) = b := by
  apply Pos.toNat_inj
  rw [Pos.toNat_ofSucc]
  have := b.toNat_pos
  omega

theorem deads_get {g : Nat} : ∀ (n : Nat) (t : PTree ABlk), (deads n t).get (Pos.ofSucc g) = if g < n then some .dead else t.get (Pos.ofSucc g) := by
  intro n
  induction n with
  | zero => intro t; simp [deads]
  | succ n ih =>
    intro t
    simp only [deads, ih]
    by_cases h : g < n
    · simp [h, Nat.lt_succ_of_lt h]
    · rw [if_neg h, PTree.get_set]
      by_cases h2 : n = g
      · subst h2; simp
      · rw [if_neg (fun e => h2 (Pos.ofSucc_inj e)), if_neg (by omega)]

theorem setRows_get {g : Nat} : ∀ (l : List (Nat × List AV)) (t : PTree ABlk) (x : ABlk), (setRows l t).get (Pos.ofSucc g) = some x → t.get (Pos.ofSucc g) = some x ∨ ∃ cs, (g, cs) ∈ l ∧ x = .row cs 0 1 false false := by
  intro l
  induction l with
  | nil => intro t x h; exact .inl h
  | cons p l ih =>
    intro t x h
    obtain ⟨g', cs⟩ := p
    simp only [setRows] at h
    rcases ih _ _ h with h1 | ⟨cs', h1, h2⟩
    · rw [PTree.get_set] at h1
      split at h1
      · rename_i e
        have := Pos.ofSucc_inj e
        subst this
        cases h1
        exact .inr ⟨cs, List.mem_cons_self, rfl⟩
      · exact .inl h1
    · exact .inr ⟨cs', List.mem_cons_of_mem _ h1, h2⟩

theorem setRows_keep {b : Pos} : ∀ (l : List (Nat × List AV)) (t : PTree ABlk), t.get b ≠ none → (setRows l t).get b ≠ none := by
  intro l
  induction l with
  | nil => intro t h; exact h
  | cons p l ih =>
    intro t h
    simp only [setRows]
    refine ih _ ?_
    rw [PTree.get_set]
    split
    · simp
    · exact h

/-- What the world must hold. -/
def RowsAt (ρ : Rho) (W : World) (rows : List (Nat × List AV)) : Prop := ∀ p ∈ rows, ∃ (arr : Array Value) (t : TypeId), W.heap[p.1]? = some (.cells arr t (0, 0)) ∧ VRs ρ p.2 arr.toList

/-- All that there was stays. -/
def fromW (W : World) : Bd := ⟨fun j => W.heap.size ≤ j, fun j => W.heap[j]?⟩

theorem below_of {W : World} {ρ : Rho} {σ : St} {w : World} (h : Rel (fromW W) ρ σ w) (hb : Bel (fromW W) W w) : Go.RowKit.Below W.heap.size W w :=
  ⟨hb.os, hb.tape, hb.output, hb.size, fun k hk => h.old k (fun hle => by have : W.heap.size ≤ k := hle; omega)⟩

theorem start_rel {nG : Nat} {rows : List (Nat × List AV)} {W : World} (hlt : ∀ p ∈ rows, p.1 < nG) (h : RowsAt (rho0 nG) W rows) : Rel (fromW W) (rho0 nG) (start nG rows) W := by
  have dom : ∀ b l, rho0 nG b = some l → b.toNat ≤ nG ∧ l = ⟨b.toNat - 1, 0, 0⟩ := by
    intro b l hb
    unfold rho0 at hb
    split at hb
    · rename_i h1; cases hb; exact ⟨Nat.le_of_ble_eq_true h1, rfl⟩
    · cases hb
  refine ⟨fun b l hb => ?_, fun b x hb => ?_, fun b c l m x y hl hm _ _ _ _ e => ?_, fun j hj => hj, fun j _ => rfl⟩
  · obtain ⟨h1, _⟩ := dom b l hb
    refine setRows_keep _ _ ?_
    rw [← ofSucc_pred b, deads_get, if_pos (by have := b.toNat_pos; omega)]
    simp
  · rw [← ofSucc_pred b] at hb ⊢
    generalize b.toNat - 1 = g at hb ⊢
    rcases setRows_get _ _ _ hb with h1 | ⟨cs, h1, rfl⟩
    · rw [deads_get] at h1
      split at h1
      · rename_i hg
        cases h1
        exact ⟨_, rho0_ofSucc hg, trivial⟩
      · rw [PTree.get_leaf] at h1; cases h1
    · obtain ⟨arr, t, h2, h3⟩ := h _ h1
      refine ⟨⟨g, 0, 0⟩, rho0_ofSucc (hlt _ h1), arr, t, 0, 0, h2, ?_, (fun _ => rfl), (fun e => by cases e), (fun e => by cases e), fun i x v hx hv => ?_⟩
      · have := h3.1; simp only [Nat.zero_add, Nat.zero_mul, Nat.add_zero]; rw [this]; simp
      · rw [Nat.zero_add] at hv
        exact h3.2 i x v hx (by simpa using hv)
  · obtain ⟨h1, rfl⟩ := dom b l hl
    obtain ⟨h2, rfl⟩ := dom c m hm
    have := b.toNat_pos
    have := c.toNat_pos
    exact Pos.toNat_inj (by simp only at e; omega)

theorem glob0 (nG : Nat) : Glob nG (rho0 nG) := fun g hg => ⟨0, rho0_ofSucc hg⟩

section
variable {P : Program} {nG : Nat}

theorem CallTo.calls {f : FuncId} {vs : Array Value} {w : World} {R : Ending → World → Prop} {b : Func × Code} (hb : bodyA P f = some b) (h : CallTo Fence.wide 0 P f vs w R) : Calls P f vs w R := by
  obtain ⟨_, _, he⟩ := bodyA_spec (fn := b.1) (c := b.2) hb
  rcases h with ⟨v', h1, _⟩ | ⟨_, h2⟩
  · rw [he] at h1; cases h1
  · exact callsIn_wide.1 h2

theorem wd_wide : Wd Fence.wide := ⟨fun _ => trivial, rfl⟩

/-- **A CLOSED CALL**: the evaluator's answer is the program's; the world has new blocks at most. -/
theorem closed_call (hm : P.follows .mixedOrders = true) {X : ExtF} {W : World} (hX : ExtOk P nG (fromW W) X) (hN : ExtNice X) {rows : List (Nat × List AV)} (hlt : ∀ p ∈ rows, p.1 < nG) (hW : RowsAt (rho0 nG) W rows) {n : Nat} {f : FuncId} {v : AV} {σ' : St}
    (h : evF P nG X n f [] (start nG rows) = some (v, σ')) {b : Func × Code} (hb : bodyA P f = some b) :
    Calls P f #[] W fun e w' => Post (fromW W) (rho0 nG) W v σ' e w' :=
  (evF_ok (base := fromW W) hm hX hN n f [] (start nG rows) v σ' h Fence.wide 0 (rho0 nG) W #[] wd_wide (glob0 nG) (start_rel hlt hW) (VRs.nil _)).calls hb

end
end --all
end Go.Ev

namespace Go.Ev
noncomputable section --all

/-! ### The evaluator in a form that the kernel runs through more quickly: the same answers  A match whose arms name what stands outside is copied whole at each step. Here an operation's kind picks a closed arm. -/

def pickD (c a b : AV) : Deed := match c with
  | .bool true => .val a
  | .bool false => .val b
  | _ => .fail
def allocD (z : Option (List AV)) (t : TypeId) : Deed := match z with
  | some cs => .new (.row cs t 1 false true) fun p => .ptr p 0
  | none => .fail
def boxD (z : Option (List AV)) (t : TypeId) : Deed := match z with
  | some cs => .new (.row cs t 1 false true) fun p => .ptr p 0
  | none => .fail
def nilD (x : AV) : Deed := match x with
  | .ptr b o => .val (.ptr b o)
  | .fn f a b => .val (.fn f a b)
  | _ => .fail
def litD (x y : Operand) : Bool := match isLit x with | true => true | false => isLit y
def isIfcT (P : Program) (t : TypeId) : Option Bool := match P.underlying t with
  | some (.interface _) => some true
  | some _ => some false
  | none => none
def ifcD (b : Option Bool) (t : TypeId) (x : AV) : Deed := match b with
  | some false => .val (.ifc t x)
  | _ => .fail
def funD (fn : Fn) (xs ys : List AV) : Deed := match fn with
  | .func f => .val (.fn f xs ys)
  | _ => .fail
def mapD (r : Option Operand) : Deed := match r with
  | none => .new (.map [] 0) fun p => .mp p
  | some _ => .fail
def extD (x : AV) (i : Nat) : Deed := match x with
  | .tup vs => .ofOption (vs[i]?)
  | _ => .fail
def nextD (b : Bool) (x : AV) : Deed := match b with
  | true => nextA x
  | false => .fail
def callD (cl : Callee) (P : Program) (c : Call) (e : Operand → AV) : Deed := match cl with
  | .builtin b => builtinA P b c.argTypes (c.args.toList.map e)
  | _ => .fail

noncomputable def AV.asInt (v : AV) : Option (IntKind × Int) := AV.rec (motive_1 := fun _ => Option (IntKind × Int)) (motive_2 := fun _ => Unit)
  none (fun _ => none) (fun k n => some (k, n)) (fun _ => none) (fun _ => none) none (fun _ _ => none) none (fun _ _ _ _ _ => none) none none (fun _ => none) none (fun _ _ _ _ _ => none) (fun _ _ _ _ _ => none) (fun _ => none) none
  (fun _ _ _ => none) (fun _ _ => none) (fun _ _ => none) (fun _ => none) () (fun _ _ _ _ => ()) v
noncomputable def AV.asBool (v : AV) : Option Bool := AV.rec (motive_1 := fun _ => Option Bool) (motive_2 := fun _ => Unit)
  none (fun b => some b) (fun _ _ => none) (fun _ => none) (fun _ => none) none (fun _ _ => none) none (fun _ _ _ _ _ => none) none none (fun _ => none) none (fun _ _ _ _ _ => none) (fun _ _ _ _ _ => none) (fun _ => none) none
  (fun _ _ _ => none) (fun _ _ => none) (fun _ _ => none) (fun _ => none) () (fun _ _ _ _ => ()) v

theorem AV.asInt_eq {v : AV} {k : IntKind} {n : Int} (h : v.asInt = some (k, n)) : v = .int k n := by
  cases v <;> first | (injection h with h; injection h with h1 h2; rw [h1, h2]) | cases h
theorem AV.asBool_eq {v : AV} {b : Bool} (h : v.asBool = some b) : v = .bool b := by
  cases v <;> first | (injection h with h; rw [h]) | cases h

noncomputable def binK (P : Program) (op : BinOp) (t : TypeId) (lit : Bool) (x y : AV) : Option AV := match x.asInt, y.asInt with
  | some (k, a), some (k', b) => match op with
    | .shl => match b with | .ofNat n => some (.int k (k.wrap (a * 2 ^ (min n k.bits)))) | .negSucc _ => none
    | .shr => match b with | .ofNat n => some (.int k (a.fdiv (2 ^ (min n k.bits)))) | .negSucc _ => none
    | op => match eqK k k' with | true => intA op k a b | false => none
  | _, _ => binA P op t lit x y

theorem binK_eq (P : Program) (op : BinOp) (t : TypeId) (lit : Bool) (x y : AV) : binK P op t lit x y = binA P op t lit x y := by
  unfold binK
  split
  · rename_i k a k' b h1 h2
    rw [AV.asInt_eq h1, AV.asInt_eq h2]
    rfl
  · rfl

noncomputable def deedK (op : Op) : Program → (Operand → AV) → Deed := Op.rec (motive := fun _ => Program → (Operand → AV) → Deed)
  (fun x _ e => (.val (e x) : Deed))
  (fun x _ e => (.val (e x) : Deed))
  (fun c a b _ e => (pickD (e c) (e a) (e b) : Deed))
  (fun t P _ => (allocD (zeroC P t) t : Deed))
  (fun t x _ e => (boxD (cellsA (e x)) t : Deed))
  (fun t ps P e => (.ofOption (buildA P t (ps.toList.map fun p => (p.1, e p.2))) : Deed))
  (fun t n ps P e => (litA P t n (ps.toList.map fun p => (p.1, e p.2)) : Deed))
  (fun t m k x P e => (mapPutA P t (e m) (e k) (e x) : Deed))
  (fun t x P e => (loadA P t (e x) : Deed))
  (fun t x y P e => (storeA P t (e x) (e y) : Deed))
  (fun _ _ _ => (.fail : Deed))
  (fun _ _ _ => (.fail : Deed))
  (fun x _ e => (nilD (e x) : Deed))
  (fun op t x y _ P e => (.ofOption (binK P op t (litD x y) (e x) (e y)) : Deed))
  (fun op _ x _ e => (.ofOption (unA op (e x)) : Deed))
  (fun s d x P e => (convA P s d (e x) : Deed))
  (fun _ _ _ _ => (.fail : Deed))
  (fun t x P e => (ifcD (isIfcT P t) t (e x) : Deed))
  (fun fn xs ys _ e => (funD fn (xs.toList.map e) (ys.toList.map e) : Deed))
  (fun _ r _ _ => (mapD r : Deed))
  (fun _ _ _ _ => (.fail : Deed))
  (fun t l c P e => (makeSliceA P t (e l) (e c) : Deed))
  (fun t x lo hi mx P e => (.ofOption (sliceA P t (e x) (lo.map e) (hi.map e) (mx.map e)) : Deed))
  (fun s x f P e => (.ofOption (fieldAddrA P s (e x) f) : Deed))
  (fun s x f P e => (.ofOption (fieldA P s (e x) f) : Deed))
  (fun t x i P e => (.ofOption (indexAddrA P t (e x) (e i)) : Deed))
  (fun t x i P e => (.ofOption (indexA P t (e x) (e i)) : Deed))
  (fun t x i ok P e => (lookupA P t (e x) (e i) ok : Deed))
  (fun t m k x P e => (mapPutA P t (e m) (e k) (e x) : Deed))
  (fun _ _ _ _ _ => (.fail : Deed))
  (fun _ _ _ _ _ _ => (.fail : Deed))
  (fun t x P e => (rangeA P t (e x) : Deed))
  (fun x b _ e => (nextD b (e x) : Deed))
  (fun _ _ _ => (.fail : Deed))
  (fun x _ t ok P e => (.ofOption (typeAssertA P (e x) t ok) : Deed))
  (fun x i _ e => (extD (e x) i : Deed))
  (fun c P e => callD (Call.callee c) P c e)
  (fun _ _ _ => (.fail : Deed))
  (fun _ _ _ => (.fail : Deed))
  (fun _ _ _ => (.fail : Deed))
  (fun _ _ _ _ => (.fail : Deed))
  (fun _ _ _ _ _ => (.fail : Deed))
  (fun _ _ _ _ => (.fail : Deed))
  op

theorem deedK_eq (P : Program) (o : Oper) (e : Operand → AV) : deedK o.op P e = deed P o e := by
  obtain ⟨dst, op, ty, pos, after, guard⟩ := o
  cases op <;> try rfl
  case binOp op t x y _ =>
    show (Deed.ofOption (binK P op t (litD x y) (e x) (e y))) = _
    rw [binK_eq]
    rfl
  case makeInterface t x =>
    show ifcD (isIfcT P t) t (e x) = _
    simp only [deed, ifcD, isIfcT]
    cases P.underlying t with
    | none => rfl
    | some d => cases d <;> rfl

/-! #### A deed done: the parts of a state are handed on, not asked for again and again -/

def Tm.putK (tm : Tm) (d : Option Nat) (v : AV) : Tm := match tm with
  | ⟨N, t⟩ => match d with
    | none => ⟨N, t⟩
    | some d => match Nat.blt d N with
      | true => ⟨N, t.set v (Pos.ofSucc d)⟩
      | false => ⟨N, t⟩

theorem Tm.putK_eq (tm : Tm) (d : Option Nat) (v : AV) : tm.putK d v = tm.put d v := by
  obtain ⟨N, t⟩ := tm
  cases d <;> rfl

def memS (rs : List Pos) (k : List ABlk → Option MRes) (nid : Pos) (hp0 : PTree ABlk) (nx : Pos) (lo : Nat) : Option (AV × St × Bool) := match getAll hp0 rs with
  | none => none
  | some bs => match k bs with
    | none => none
    | some r => match setAll lo r.upd hp0 with
      | none => none
      | some hp => match r.nw with
        | none => some (r.val nid, ⟨hp, nx, lo⟩, false)
        | some x => match hp.get nid with
          | some _ => none
          | none => some (r.val nid, ⟨hp.set x nid, nx, lo⟩, true)

def memK (rs : List Pos) (k : List ABlk → Option MRes) (nid : Pos) (σ : St) : Option (AV × St × Bool) := match σ with
  | ⟨hp, nx, lo⟩ => memS rs k nid hp nx lo

noncomputable def runK (d : Deed) : Pos → St → Option (AV × St × Bool) := Deed.rec (motive := fun _ => Pos → St → Option (AV × St × Bool))
  (fun v _ σ => some (v, σ, false)) (fun rs k nid σ => memK rs k nid σ) (fun _ _ => none) d

theorem runK_eq (d : Deed) (nid : Pos) (σ : St) : runK d nid σ = d.run nid σ := by cases d <;> rfl

/-- What a deed does, and its marks. -/
def memFK (rs : List Pos) (k : List ABlk → Option MRes) (nid : Pos) (σ : St) : Option (AV × St × FP) := match memK rs k nid σ with
  | some (v, σ', _) => some (v, σ', (Deed.mem rs k).fp nid σ)
  | none => none

noncomputable def runFK (d : Deed) : Pos → St → Option (AV × St × FP) := Deed.rec (motive := fun _ => Pos → St → Option (AV × St × FP))
  (fun v _ σ => some (v, σ, .nil)) (fun rs k nid σ => memFK rs k nid σ) (fun _ _ => none) d

theorem runFK_eq (d : Deed) (nid : Pos) (σ : St) : runFK d nid σ = match d.run nid σ with | some (v, σ', _) => some (v, σ', d.fp nid σ) | none => none := by cases d <;> rfl

/-! #### Operations -/

def doCall (t : CT) (cf : CallF) (yf : YieldF) (σ : St) : Option (AV × St × Bool) := match t with
  | .fn f args => match cf f args σ with
    | some (v, σ') => some (v, σ', false)
    | none => none
  | .yl b args => match yf b args σ with
    | some (v, σ') => some (v, σ', false)
    | none => none
  | .none => none

noncomputable def callK (cl : Callee) (c : Call) (P : Program) (nG : Nat) (cf : CallF) (yf : YieldF) (nid : Pos) (tm : Tm) (σ : St) : Option (AV × St × Bool) := match cl with
  | .builtin b => runK (builtinA P b c.argTypes (c.args.toList.map (evA nG tm))) nid σ
  | _ => doCall (callT P c (evA nG tm)) cf yf σ

noncomputable def doK (op : Op) : Program → Nat → CallF → YieldF → Pos → Tm → St → Option (AV × St × Bool) := Op.rec (motive := fun _ => Program → Nat → CallF → YieldF → Pos → Tm → St → Option (AV × St × Bool))
  (fun x _ nG _ _ nid tm σ => runK (.val (evA nG tm x)) nid σ)
  (fun x _ nG _ _ nid tm σ => runK (.val (evA nG tm x)) nid σ)
  (fun c a b _ nG _ _ nid tm σ => runK (pickD (evA nG tm c) (evA nG tm a) (evA nG tm b)) nid σ)
  (fun t P _ _ _ nid _ σ => runK (allocD (zeroC P t) t) nid σ)
  (fun t x _ nG _ _ nid tm σ => runK (boxD (cellsA (evA nG tm x)) t) nid σ)
  (fun t ps P nG _ _ nid tm σ => runK (.ofOption (buildA P t (ps.toList.map fun p => (p.1, evA nG tm p.2)))) nid σ)
  (fun t n ps P nG _ _ nid tm σ => runK (litA P t n (ps.toList.map fun p => (p.1, evA nG tm p.2))) nid σ)
  (fun t m k x P nG _ _ nid tm σ => runK (mapPutA P t (evA nG tm m) (evA nG tm k) (evA nG tm x)) nid σ)
  (fun t x P nG _ _ nid tm σ => runK (loadA P t (evA nG tm x)) nid σ)
  (fun t x y P nG _ _ nid tm σ => runK (storeA P t (evA nG tm x) (evA nG tm y)) nid σ)
  (fun _ _ _ _ _ nid _ σ => runK (.fail) nid σ)
  (fun _ _ _ _ _ nid _ σ => runK (.fail) nid σ)
  (fun x _ nG _ _ nid tm σ => runK (nilD (evA nG tm x)) nid σ)
  (fun op t x y _ P nG _ _ nid tm σ => runK (.ofOption (binK P op t (litD x y) (evA nG tm x) (evA nG tm y))) nid σ)
  (fun op _ x _ nG _ _ nid tm σ => runK (.ofOption (unA op (evA nG tm x))) nid σ)
  (fun s d x P nG _ _ nid tm σ => runK (convA P s d (evA nG tm x)) nid σ)
  (fun _ _ _ _ _ _ nid _ σ => runK (.fail) nid σ)
  (fun t x P nG _ _ nid tm σ => runK (ifcD (isIfcT P t) t (evA nG tm x)) nid σ)
  (fun fn xs ys _ nG _ _ nid tm σ => runK (funD fn (xs.toList.map (evA nG tm)) (ys.toList.map (evA nG tm))) nid σ)
  (fun _ r _ _ _ _ nid _ σ => runK (mapD r) nid σ)
  (fun _ _ _ _ _ _ nid _ σ => runK (.fail) nid σ)
  (fun t l c P nG _ _ nid tm σ => runK (makeSliceA P t (evA nG tm l) (evA nG tm c)) nid σ)
  (fun t x lo hi mx P nG _ _ nid tm σ => runK (.ofOption (sliceA P t (evA nG tm x) (lo.map (evA nG tm)) (hi.map (evA nG tm)) (mx.map (evA nG tm)))) nid σ)
  (fun s x f P nG _ _ nid tm σ => runK (.ofOption (fieldAddrA P s (evA nG tm x) f)) nid σ)
  (fun s x f P nG _ _ nid tm σ => runK (.ofOption (fieldA P s (evA nG tm x) f)) nid σ)
  (fun t x i P nG _ _ nid tm σ => runK (.ofOption (indexAddrA P t (evA nG tm x) (evA nG tm i))) nid σ)
  (fun t x i P nG _ _ nid tm σ => runK (.ofOption (indexA P t (evA nG tm x) (evA nG tm i))) nid σ)
  (fun t x i ok P nG _ _ nid tm σ => runK (lookupA P t (evA nG tm x) (evA nG tm i) ok) nid σ)
  (fun t m k x P nG _ _ nid tm σ => runK (mapPutA P t (evA nG tm m) (evA nG tm k) (evA nG tm x)) nid σ)
  (fun _ _ _ _ _ _ _ nid _ σ => runK (.fail) nid σ)
  (fun _ _ _ _ _ _ _ _ nid _ σ => runK (.fail) nid σ)
  (fun t x P nG _ _ nid tm σ => runK (rangeA P t (evA nG tm x)) nid σ)
  (fun x b _ nG _ _ nid tm σ => runK (nextD b (evA nG tm x)) nid σ)
  (fun _ _ _ _ _ nid _ σ => runK (.fail) nid σ)
  (fun x _ t ok P nG _ _ nid tm σ => runK (.ofOption (typeAssertA P (evA nG tm x) t ok)) nid σ)
  (fun x i _ nG _ _ nid tm σ => runK (extD (evA nG tm x) i) nid σ)
  (fun c P nG cf yf nid tm σ => callK (Call.callee c) c P nG cf yf nid tm σ)
  (fun _ _ _ _ _ nid _ σ => runK (.fail) nid σ)
  (fun _ _ _ _ _ nid _ σ => runK (.fail) nid σ)
  (fun _ _ _ _ _ nid _ σ => runK (.fail) nid σ)
  (fun _ _ _ _ _ _ nid _ σ => runK (.fail) nid σ)
  (fun _ _ _ _ _ _ _ nid _ σ => runK (.fail) nid σ)
  (fun _ _ _ _ _ _ nid _ σ => runK (.fail) nid σ)
  op

theorem doK_eq (P : Program) (nG : Nat) (cf : CallF) (yf : YieldF) (nid : Pos) (o : Oper) (tm : Tm) (σ : St) : doK o.op P nG cf yf nid tm σ = doOp P nG cf yf nid o tm σ := by
  have key : (∀ c, o.op ≠ .call c) → doK o.op P nG cf yf nid tm σ = runK (deedK o.op P (evA nG tm)) nid σ := by
    obtain ⟨dst, op, ty, pos, after, guard⟩ := o
    intro h
    cases op <;> first | rfl | exact absurd rfl (h _)
  by_cases h : ∀ c, o.op ≠ .call c
  · rw [key h, runK_eq, deedK_eq]
    unfold doOp
    split
    · rename_i c hc; exact absurd hc (h c)
    · rfl
  · have h : ∃ c, o.op = .call c := Classical.byContradiction fun h2 => h fun c hc => h2 ⟨c, hc⟩
    obtain ⟨c, hc⟩ := h
    unfold doOp
    rw [hc]
    show callK c.callee c P nG cf yf nid tm σ = _
    obtain ⟨dst, op, ty, pos, after, guard⟩ := o
    simp only at hc
    subst hc
    unfold callK
    simp only
    cases hcl : c.callee with
    | builtin b =>
      simp only [runK_eq]
      simp only [deed, hcl]
    | value f =>
      simp only [doCall]
      cases callT P c (evA nG tm) <;> rfl
    | invoke r m =>
      simp only [doCall]
      cases callT P c (evA nG tm) <;> rfl

/-! #### Rows of operations -/

noncomputable def guardB (want : Bool) (v : AV) : Option Bool := match v.asBool with
  | some b => some (match want with | true => b | false => bnot b)
  | none => match v with
    | .und => none
    | .val _ => none
    | _ => some false

noncomputable def wantK (ops : List Oper) (tm : Tm) (g : Option (Nat × Bool)) : Option Bool := match g with
  | none => some true
  | some (j, want) => match ops[j]? with
    | some oj => match oj.dst with
      | some d => match Nat.blt d tm.N with
        | true => guardB want (tm.get d)
        | false => none
      | none => none
    | none => none

theorem wantK_eq (ops : Array Oper) (tm : Tm) (o : Oper) : wantK ops.toList tm o.guard = wantA ops tm o := by
  unfold wantK wantA
  cases o.guard with
  | none => rfl
  | some p =>
    obtain ⟨j, want⟩ := p
    simp only [Array.getElem?_toList]
    cases ops[j]? with
    | none => rfl
    | some oj =>
      simp only
      cases oj.dst with
      | none => rfl
      | some d =>
        simp only
        cases Nat.blt d tm.N with
        | false => rfl
        | true => simp only [guardB]; cases tm.get d <;> rfl

def St.nextK (σ : St) : St := match σ with
  | ⟨hp, nx, lo⟩ => ⟨hp, nx.succ, lo⟩
def St.loK (σ : St) (n : Nat) : St := match σ with
  | ⟨hp, nx, _⟩ => ⟨hp, nx, n⟩

def seqNext (k : Tm → St → Option (Tm × St)) (dst : Option Nat) (tm : Tm) (r : Option (AV × St × Bool)) : Option (Tm × St) := match r with
  | none => none
  | some (v, σ', u) => match u with
    | true => k (tm.putK dst v) σ'.nextK
    | false => k (tm.putK dst v) σ'

noncomputable def seqStep (P : Program) (nG : Nat) (cf : CallF) (yf : YieldF) (ops : List Oper) (o : Oper) (k : Tm → St → Option (Tm × St)) (tm : Tm) (σ : St) : Option (Tm × St) := match wantK ops tm o.guard with
  | none => none
  | some false => k (tm.putK o.dst (.tup [])) σ
  | some true => seqNext k o.dst tm (doK o.op P nG cf yf σ.nx tm σ)

noncomputable def seqK (P : Program) (nG : Nat) (cf : CallF) (yf : YieldF) (ops : List Oper) (l : List Oper) : Tm → St → Option (Tm × St) := List.rec (motive := fun _ => Tm → St → Option (Tm × St))
  (fun tm σ => some (tm, σ)) (fun o _ ih tm σ => seqStep P nG cf yf ops o ih tm σ) l

theorem seqK_eq (P : Program) (nG : Nat) (cf : CallF) (yf : YieldF) (ops : Array Oper) : ∀ (k i : Nat), i + k = ops.size → ∀ (tm : Tm) (σ : St), seqK P nG cf yf ops.toList (ops.toList.drop i) tm σ = seqOps P nG cf yf ops (List.range' i k) tm σ := by
  intro k
  induction k with
  | zero =>
    intro i hi tm σ
    rw [List.drop_of_length_le (by simp; omega)]
    rfl
  | succ k ih =>
    intro i hi tm σ
    have hlt : i < ops.toList.length := by simp; omega
    rw [List.drop_eq_getElem_cons hlt, List.range'_succ]
    show seqStep P nG cf yf ops.toList ops.toList[i] (seqK P nG cf yf ops.toList (ops.toList.drop (i + 1))) tm σ = _
    have ho : ops[i]? = some ops.toList[i] := by simp at hlt; simp [hlt]
    simp only [seqOps, ho, seqStep]
    have hk : seqK P nG cf yf ops.toList (ops.toList.drop (i + 1)) = seqOps P nG cf yf ops (List.range' (i + 1) k) := by
      funext tm σ; exact ih (i + 1) (by omega) tm σ
    rw [wantK_eq, hk, doK_eq]
    cases wantA ops tm ops.toList[i] with
    | none => rfl
    | some b =>
      cases b with
      | false => simp only [Tm.putK_eq]
      | true =>
        simp only [seqNext, Tm.putK_eq]
        cases doOp P nG cf yf σ.nx ops.toList[i] tm σ with
        | none => rfl
        | some r => obtain ⟨v, σ', u⟩ := r; cases u <;> rfl

/-! #### Regions that draw -/

def calleeB (c : Callee) : Bool := match c with
  | .builtin _ => false
  | _ => true

noncomputable def isCallK (op : Op) : Bool := Op.rec (motive := fun _ => Bool)
  (fun _ => false)
  (fun _ => false)
  (fun _ _ _ => false)
  (fun _ => false)
  (fun _ _ => false)
  (fun _ _ => false)
  (fun _ _ _ => false)
  (fun _ _ _ _ => false)
  (fun _ _ => false)
  (fun _ _ _ => false)
  (fun _ => false)
  (fun _ => false)
  (fun _ => false)
  (fun _ _ _ _ _ => false)
  (fun _ _ _ => false)
  (fun _ _ _ => false)
  (fun _ _ => false)
  (fun _ _ => false)
  (fun _ _ _ => false)
  (fun _ _ => false)
  (fun _ _ => false)
  (fun _ _ _ => false)
  (fun _ _ _ _ _ => false)
  (fun _ _ _ => false)
  (fun _ _ _ => false)
  (fun _ _ _ => false)
  (fun _ _ _ => false)
  (fun _ _ _ _ => false)
  (fun _ _ _ _ => false)
  (fun _ _ _ => false)
  (fun _ _ _ _ => false)
  (fun _ _ => false)
  (fun _ _ => false)
  (fun _ => false)
  (fun _ _ _ _ => false)
  (fun _ _ => false)
  (fun c => calleeB (Call.callee c))
  (fun _ => false)
  (fun _ => false)
  (fun _ => false)
  (fun _ _ => false)
  (fun _ _ _ => false)
  (fun _ _ => false)
  op

noncomputable def isNewK (op : Op) : Bool := Op.rec (motive := fun _ => Bool)
  (fun _ => false)
  (fun _ => false)
  (fun _ _ _ => false)
  (fun _ => true)
  (fun _ _ => true)
  (fun _ _ => false)
  (fun _ _ _ => true)
  (fun _ _ _ _ => false)
  (fun _ _ => false)
  (fun _ _ _ => false)
  (fun _ => false)
  (fun _ => false)
  (fun _ => false)
  (fun _ _ _ _ _ => false)
  (fun _ _ _ => false)
  (fun _ _ _ => false)
  (fun _ _ => false)
  (fun _ _ => false)
  (fun _ _ _ => false)
  (fun _ _ => true)
  (fun _ _ => false)
  (fun _ _ _ => true)
  (fun _ _ _ _ _ => false)
  (fun _ _ _ => false)
  (fun _ _ _ => false)
  (fun _ _ _ => false)
  (fun _ _ _ => false)
  (fun _ _ _ _ => false)
  (fun _ _ _ _ => false)
  (fun _ _ _ => false)
  (fun _ _ _ _ => false)
  (fun _ _ => true)
  (fun _ _ => false)
  (fun _ => false)
  (fun _ _ _ _ => false)
  (fun _ _ => false)
  (fun _ => false)
  (fun _ => false)
  (fun _ => false)
  (fun _ => false)
  (fun _ _ => false)
  (fun _ _ _ => false)
  (fun _ _ => false)
  op

noncomputable def isPureK (op : Op) : Bool := Op.rec (motive := fun _ => Bool)
  (fun _ => true)
  (fun _ => true)
  (fun _ _ _ => true)
  (fun _ => false)
  (fun _ _ => false)
  (fun _ _ => true)
  (fun _ _ _ => false)
  (fun _ _ _ _ => false)
  (fun _ _ => false)
  (fun _ _ _ => false)
  (fun _ => false)
  (fun _ => false)
  (fun _ => true)
  (fun _ _ _ _ _ => true)
  (fun _ _ _ => true)
  (fun _ _ _ => false)
  (fun _ _ => false)
  (fun _ _ => true)
  (fun _ _ _ => true)
  (fun _ _ => false)
  (fun _ _ => false)
  (fun _ _ _ => false)
  (fun _ _ _ _ _ => true)
  (fun _ _ _ => true)
  (fun _ _ _ => true)
  (fun _ _ _ => true)
  (fun _ _ _ => true)
  (fun _ _ _ _ => false)
  (fun _ _ _ _ => false)
  (fun _ _ _ => false)
  (fun _ _ _ _ => false)
  (fun _ _ => false)
  (fun _ _ => false)
  (fun _ => false)
  (fun _ _ _ _ => true)
  (fun _ _ => true)
  (fun _ => false)
  (fun _ => false)
  (fun _ => false)
  (fun _ => false)
  (fun _ _ => false)
  (fun _ _ _ => false)
  (fun _ _ => false)
  op

theorem isCallK_eq (o : Oper) : isCallK o.op = isCall o := by
  obtain ⟨dst, op, ty, pos, after, guard⟩ := o
  cases op <;> first | rfl | (rename_i c; show calleeB c.callee = _; unfold isCall calleeB; simp only; cases c.callee <;> rfl)

theorem isNewK_eq (o : Oper) : isNewK o.op = isNew o := by
  obtain ⟨dst, op, ty, pos, after, guard⟩ := o
  cases op <;> rfl

theorem isPureK_eq (o : Oper) : isPureK o.op = isPure o := by
  obtain ⟨dst, op, ty, pos, after, guard⟩ := o
  cases op <;> rfl

noncomputable def pickK (ms : List Nat) (os : List Oper) (done : Nat) : Nat → List Oper → Option (Nat × Nat) → Option Nat
  | _, [], best => match best with | some (i, _) => some i | none => none
  | i, o :: l, best => match Nat.testBit done i, subset (match ms[i]? with | some m => m | none => 0) done with
    | false, true =>
      let c := match isCallK o.op with | true => 0 | false => match isNewK o.op with | true => 2 | false => 1
      match best with
      | none => pickK ms os done (i + 1) l (some (i, c))
      | some (j, d) => match Nat.blt c d with
        | true => pickK ms os done (i + 1) l (some (i, c))
        | false => pickK ms os done (i + 1) l (some (j, d))
    | _, _ => pickK ms os done (i + 1) l best

theorem pickK_eq (ms : List Nat) (os : List Oper) (done : Nat) : ∀ (l : List Oper) (i : Nat) (best : Option (Nat × Nat)), pickK ms os done i l best = pickOne ms os done i l best := by
  intro l
  induction l with
  | nil => intro i best; rfl
  | cons o l ih =>
    intro i best
    simp only [pickK, pickOne, ih, isCallK_eq, isNewK_eq]
    rfl

noncomputable def orderFK (ms : List Nat) (os : List Oper) : Nat → Nat → List Nat
  | 0, _ => []
  | n + 1, done => match pickK ms os done 0 os none with
    | some i => i :: orderFK ms os n (Nat.lor done (2 ^ i))
    | none => []

theorem orderFK_eq (ms : List Nat) (os : List Oper) : ∀ (n done : Nat), orderFK ms os n done = orderF ms os n done := by
  intro n
  induction n with
  | zero => intro done; rfl
  | succ n ih => intro done; simp only [orderFK, orderF, pickK_eq, ih]; rfl

noncomputable def loudK (os : List Oper) (ms : List Nat) (i : Nat) : Nat → Bool
  | 0 => true
  | j + 1 => match Nat.beq j i with
    | true => loudK os ms i j
    | false => match (match os[j]? with | some o => isPureK o.op | none => true) with
      | true => loudK os ms i j
      | false => match Nat.testBit (msGet ms i) j with
        | true => loudK os ms i j
        | false => match Nat.testBit (msGet ms j) i with
          | true => loudK os ms i j
          | false => false

theorem loudK_eq (os : List Oper) (ms : List Nat) (i : Nat) : ∀ (j : Nat), loudK os ms i j = loudAt os ms i j := by
  intro j
  induction j with
  | zero => rfl
  | succ j ih =>
    simp only [loudK, loudAt, ih, isPureK_eq]
    rfl

def drDone (lo : Nat) (ld : Bool) (r : Option (AV × St)) : Option (AV × St × FP) := match r with
  | some (v, σ') => some (v, σ'.loK lo, ⟨[], [], true, ld⟩)
  | none => none

noncomputable def drFn (t : CT) (cf : CallF) (os : List Oper) (ms : List Nat) (n lim i : Nat) (σ : St) : Option (AV × St × FP) := match t with
  | .fn f args => match loudK os ms i n with
    | true => match cf f args σ with
      | some (v, σ') => some (v, σ', ⟨[], [], true, true⟩)
      | none => none
    | false => drDone σ.lo false (cf f args (σ.loK lim))
  | _ => none

noncomputable def drCallK (cl : Callee) (c : Call) (P : Program) (nG : Nat) (cf : CallF) (os : List Oper) (ms : List Nat) (n lim i : Nat) (nid : Pos) (tm : Tm) (σ : St) : Option (AV × St × FP) := match cl with
  | .builtin b => runFK (builtinA P b c.argTypes (c.args.toList.map (evA nG tm))) nid σ
  | _ => drFn (callT P c (evA nG tm)) cf os ms n lim i σ

noncomputable def drK (op : Op) : Program → Nat → CallF → List Oper → List Nat → Nat → Nat → Nat → Pos → Tm → St → Option (AV × St × FP) := Op.rec (motive := fun _ => Program → Nat → CallF → List Oper → List Nat → Nat → Nat → Nat → Pos → Tm → St → Option (AV × St × FP))
  (fun x _ nG _ _ _ _ _ _ nid tm σ => runFK (.val (evA nG tm x)) nid σ)
  (fun x _ nG _ _ _ _ _ _ nid tm σ => runFK (.val (evA nG tm x)) nid σ)
  (fun c a b _ nG _ _ _ _ _ _ nid tm σ => runFK (pickD (evA nG tm c) (evA nG tm a) (evA nG tm b)) nid σ)
  (fun t P _ _ _ _ _ _ _ nid _ σ => runFK (allocD (zeroC P t) t) nid σ)
  (fun t x _ nG _ _ _ _ _ _ nid tm σ => runFK (boxD (cellsA (evA nG tm x)) t) nid σ)
  (fun t ps P nG _ _ _ _ _ _ nid tm σ => runFK (.ofOption (buildA P t (ps.toList.map fun p => (p.1, evA nG tm p.2)))) nid σ)
  (fun t n ps P nG _ _ _ _ _ _ nid tm σ => runFK (litA P t n (ps.toList.map fun p => (p.1, evA nG tm p.2))) nid σ)
  (fun t m k x P nG _ _ _ _ _ _ nid tm σ => runFK (mapPutA P t (evA nG tm m) (evA nG tm k) (evA nG tm x)) nid σ)
  (fun t x P nG _ _ _ _ _ _ nid tm σ => runFK (loadA P t (evA nG tm x)) nid σ)
  (fun t x y P nG _ _ _ _ _ _ nid tm σ => runFK (storeA P t (evA nG tm x) (evA nG tm y)) nid σ)
  (fun _ _ _ _ _ _ _ _ _ nid _ σ => runFK (.fail) nid σ)
  (fun _ _ _ _ _ _ _ _ _ nid _ σ => runFK (.fail) nid σ)
  (fun x _ nG _ _ _ _ _ _ nid tm σ => runFK (nilD (evA nG tm x)) nid σ)
  (fun op t x y _ P nG _ _ _ _ _ _ nid tm σ => runFK (.ofOption (binK P op t (litD x y) (evA nG tm x) (evA nG tm y))) nid σ)
  (fun op _ x _ nG _ _ _ _ _ _ nid tm σ => runFK (.ofOption (unA op (evA nG tm x))) nid σ)
  (fun s d x P nG _ _ _ _ _ _ nid tm σ => runFK (convA P s d (evA nG tm x)) nid σ)
  (fun _ _ _ _ _ _ _ _ _ _ nid _ σ => runFK (.fail) nid σ)
  (fun t x P nG _ _ _ _ _ _ nid tm σ => runFK (ifcD (isIfcT P t) t (evA nG tm x)) nid σ)
  (fun fn xs ys _ nG _ _ _ _ _ _ nid tm σ => runFK (funD fn (xs.toList.map (evA nG tm)) (ys.toList.map (evA nG tm))) nid σ)
  (fun _ r _ _ _ _ _ _ _ _ nid _ σ => runFK (mapD r) nid σ)
  (fun _ _ _ _ _ _ _ _ _ _ nid _ σ => runFK (.fail) nid σ)
  (fun t l c P nG _ _ _ _ _ _ nid tm σ => runFK (makeSliceA P t (evA nG tm l) (evA nG tm c)) nid σ)
  (fun t x lo hi mx P nG _ _ _ _ _ _ nid tm σ => runFK (.ofOption (sliceA P t (evA nG tm x) (lo.map (evA nG tm)) (hi.map (evA nG tm)) (mx.map (evA nG tm)))) nid σ)
  (fun s x f P nG _ _ _ _ _ _ nid tm σ => runFK (.ofOption (fieldAddrA P s (evA nG tm x) f)) nid σ)
  (fun s x f P nG _ _ _ _ _ _ nid tm σ => runFK (.ofOption (fieldA P s (evA nG tm x) f)) nid σ)
  (fun t x i P nG _ _ _ _ _ _ nid tm σ => runFK (.ofOption (indexAddrA P t (evA nG tm x) (evA nG tm i))) nid σ)
  (fun t x i P nG _ _ _ _ _ _ nid tm σ => runFK (.ofOption (indexA P t (evA nG tm x) (evA nG tm i))) nid σ)
  (fun t x i ok P nG _ _ _ _ _ _ nid tm σ => runFK (lookupA P t (evA nG tm x) (evA nG tm i) ok) nid σ)
  (fun t m k x P nG _ _ _ _ _ _ nid tm σ => runFK (mapPutA P t (evA nG tm m) (evA nG tm k) (evA nG tm x)) nid σ)
  (fun _ _ _ _ _ _ _ _ _ _ _ nid _ σ => runFK (.fail) nid σ)
  (fun _ _ _ _ _ _ _ _ _ _ _ _ nid _ σ => runFK (.fail) nid σ)
  (fun t x P nG _ _ _ _ _ _ nid tm σ => runFK (rangeA P t (evA nG tm x)) nid σ)
  (fun x b _ nG _ _ _ _ _ _ nid tm σ => runFK (nextD b (evA nG tm x)) nid σ)
  (fun _ _ _ _ _ _ _ _ _ nid _ σ => runFK (.fail) nid σ)
  (fun x _ t ok P nG _ _ _ _ _ _ nid tm σ => runFK (.ofOption (typeAssertA P (evA nG tm x) t ok)) nid σ)
  (fun x i _ nG _ _ _ _ _ _ nid tm σ => runFK (extD (evA nG tm x) i) nid σ)
  (fun c P nG cf os ms nn lim ii nid tm σ => drCallK (Call.callee c) c P nG cf os ms nn lim ii nid tm σ)
  (fun _ _ _ _ _ _ _ _ _ nid _ σ => runFK (.fail) nid σ)
  (fun _ _ _ _ _ _ _ _ _ nid _ σ => runFK (.fail) nid σ)
  (fun _ _ _ _ _ _ _ _ _ nid _ σ => runFK (.fail) nid σ)
  (fun _ _ _ _ _ _ _ _ _ _ nid _ σ => runFK (.fail) nid σ)
  (fun _ _ _ _ _ _ _ _ _ _ _ nid _ σ => runFK (.fail) nid σ)
  (fun _ _ _ _ _ _ _ _ _ _ nid _ σ => runFK (.fail) nid σ)
  op

/-- One operation. -/
noncomputable def drOpK (P : Program) (nG : Nat) (cf : CallF) (os : List Oper) (ms : List Nat) (n : Nat) (base : Pos) (lim i : Nat) (tm : Tm) (σ : St) : Option (Tm × St × FP) := match os[i]? with
  | none => none
  | some o => match wantK os tm o.guard with
    | none => none
    | some false => some (tm.putK o.dst (.tup []), σ, .nil)
    | some true => match drK o.op P nG cf os ms n lim i (addPos base i) tm σ with
      | some (v, σ', fp) => some (tm.putK o.dst v, σ', fp)
      | none => none

theorem drOpK_eq (P : Program) (nG : Nat) (cf : CallF) (ops : Array Oper) (base : Pos) (lim i : Nat) (tm : Tm) (σ : St) :
    drOpK P nG cf ops.toList (masks ops.toList) ops.size base lim i tm σ = drawOp P nG cf ops base lim i tm σ := by
  unfold drOpK drawOp
  rw [Array.getElem?_toList]
  cases ho : ops[i]? with
  | none => rfl
  | some o =>
    simp only [wantK_eq, Tm.putK_eq]
    cases wantA ops tm o with
    | none => rfl
    | some b =>
      cases b with
      | false => rfl
      | true =>
        simp only
        by_cases h : ∀ c, o.op ≠ .call c
        · have key : drK o.op P nG cf ops.toList (masks ops.toList) ops.size lim i (addPos base i) tm σ = runFK (deedK o.op P (evA nG tm)) (addPos base i) σ := by
            obtain ⟨dst, op, ty, pos, after, guard⟩ := o
            cases op <;> first | rfl | exact absurd rfl (h _)
          have hc : isCall o = false := by
            unfold isCall
            split
            · rename_i c hc; exact absurd hc (h c)
            · rfl
          rw [key, runFK_eq, deedK_eq, hc]
          simp only
          cases (deed P o (evA nG tm)).run (addPos base i) σ <;> rfl
        · have h : ∃ c, o.op = .call c := Classical.byContradiction fun h2 => h fun c hc => h2 ⟨c, hc⟩
          obtain ⟨c, hc⟩ := h
          obtain ⟨dst, op, ty, pos, after, guard⟩ := o
          simp only at hc
          subst hc
          show (match drCallK c.callee c P nG cf ops.toList (masks ops.toList) ops.size lim i (addPos base i) tm σ with
            | some (v, σ', fp) => some (tm.put dst v, σ', fp)
            | none => none) = _
          unfold drCallK isCall
          simp only
          cases hcl : c.callee with
          | builtin b =>
            simp only [runFK_eq, deed, hcl]
            cases (builtinA P b c.argTypes (c.args.toList.map (evA nG tm))).run (addPos base i) σ <;> rfl
          | value f =>
            simp only [drFn, loudK_eq]
            cases callT P c (evA nG tm) with
            | fn g args =>
              simp only
              cases loudAt ops.toList (masks ops.toList) i ops.size with
              | true => simp only; cases cf g args σ <;> rfl
              | false => simp only [drDone, show σ.loK lim = { σ with lo := lim } from rfl]; cases cf g args { σ with lo := lim } <;> rfl
            | _ => rfl
          | invoke r m =>
            simp only [drFn, loudK_eq]
            cases callT P c (evA nG tm) with
            | fn g args =>
              simp only
              cases loudAt ops.toList (masks ops.toList) i ops.size with
              | true => simp only; cases cf g args σ <;> rfl
              | false => simp only [drDone, show σ.loK lim = { σ with lo := lim } from rfl]; cases cf g args { σ with lo := lim } <;> rfl
            | _ => rfl

/-- The marks that say something. -/
def addF (i : Nat) (f : FP) (l : List (Nat × FP)) : List (Nat × FP) := match f.cl, f.ld, f.rd, f.wr with
  | false, false, [], [] => l
  | _, _, _, _ => (i, f) :: l

def drNext (k : Tm → St → Option (Tm × St × List (Nat × FP))) (i : Nat) (r : Option (Tm × St × FP)) : Option (Tm × St × List (Nat × FP)) := match r with
  | none => none
  | some (tm', σ', fp) => match k tm' σ' with
    | none => none
    | some (tm'', σ'', fps) => some (tm'', σ'', addF i fp fps)

noncomputable def drOpsK (P : Program) (nG : Nat) (cf : CallF) (os : List Oper) (ms : List Nat) (n : Nat) (base : Pos) (lim : Nat) (l : List Nat) : Tm → St → Option (Tm × St × List (Nat × FP)) := List.rec (motive := fun _ => Tm → St → Option (Tm × St × List (Nat × FP)))
  (fun tm σ => some (tm, σ, [])) (fun i _ ih tm σ => drNext ih i (drOpK P nG cf os ms n base lim i tm σ)) l

/-- The marks but for those that say nothing. -/
def sift : List (Nat × FP) → List (Nat × FP)
  | [] => []
  | (i, f) :: l => addF i f (sift l)

theorem drOpsK_eq (P : Program) (nG : Nat) (cf : CallF) (ops : Array Oper) (base : Pos) (lim : Nat) : ∀ (l : List Nat) (tm : Tm) (σ : St),
    drOpsK P nG cf ops.toList (masks ops.toList) ops.size base lim l tm σ = match drawOps P nG cf ops base lim l tm σ with
      | none => none
      | some (tm', σ', fps) => some (tm', σ', sift fps) := by
  intro l
  induction l with
  | nil => intro tm σ; rfl
  | cons i l ih =>
    intro tm σ
    show drNext (drOpsK P nG cf ops.toList (masks ops.toList) ops.size base lim l) i (drOpK P nG cf ops.toList (masks ops.toList) ops.size base lim i tm σ) = _
    rw [drOpK_eq]
    simp only [drawOps]
    cases drawOp P nG cf ops base lim i tm σ with
    | none => rfl
    | some r =>
      obtain ⟨tm', σ', fp⟩ := r
      simp only [drNext, ih]
      cases drawOps P nG cf ops base lim l tm' σ' with
      | none => rfl
      | some q => obtain ⟨tm'', σ'', fps⟩ := q; rfl

/-- A mark that says nothing goes with all. -/
def dull (f : FP) : Prop := f.cl = false ∧ f.ld = false ∧ f.rd = [] ∧ f.wr = []

theorem addF_cases (i : Nat) (f : FP) (l : List (Nat × FP)) : (dull f ∧ addF i f l = l) ∨ addF i f l = (i, f) :: l := by
  unfold addF
  split
  · rename_i h1 h2 h3 h4; exact .inl ⟨⟨h1, h2, h3, h4⟩, rfl⟩
  · exact .inr rfl

theorem disj_nil (l : List Pos) : disj l [] = true := by
  induction l with
  | nil => rfl
  | cons b l ih => simp only [disj, memP, ih]

theorem compat_dull_l {n : Nat} {f g : FP} (h : dull f) : compat n f g = true := by
  obtain ⟨c, l, r, w⟩ := h
  obtain ⟨rd, wr, cl, ld⟩ := f
  obtain ⟨rd', wr', cl', ld'⟩ := g
  simp only at c l r w
  subst c l r w
  cases ld' <;> cases cl' <;> simp [compat, disj, disj_nil, FP.none]

theorem compat_dull_r {n : Nat} {f g : FP} (h : dull g) : compat n f g = true := by
  obtain ⟨c, l, r, w⟩ := h
  obtain ⟨rd, wr, cl, ld⟩ := f
  obtain ⟨rd', wr', cl', ld'⟩ := g
  simp only at c l r w
  subst c l r w
  cases ld <;> cases cl <;> simp [compat, disj, disj_nil, FP.none]

end --all
end Go.Ev

namespace Go.Ev
noncomputable section --all

theorem compatAll_sift {ms : List Nat} {n j : Nat} {fj : FP} : ∀ (fps : List (Nat × FP)), compatAll ms n j fj (sift fps) = compatAll ms n j fj fps := by
  intro fps
  induction fps with
  | nil => rfl
  | cons p fps ih =>
    obtain ⟨i, fi⟩ := p
    simp only [sift]
    rcases addF_cases i fi (sift fps) with ⟨hd, he⟩ | he
    · rw [he, ih]
      simp only [compatAll, compat_dull_r hd]
      cases Nat.testBit (msGet ms i) j <;> rfl
    · rw [he]
      simp only [compatAll, ih]

theorem compatAll_dull {ms : List Nat} {n j : Nat} {fj : FP} (hd : dull fj) : ∀ (fps : List (Nat × FP)), compatAll ms n j fj fps = true := by
  intro fps
  induction fps with
  | nil => rfl
  | cons p fps ih =>
    obtain ⟨i, fi⟩ := p
    simp only [compatAll, compat_dull_l hd, ih]
    cases Nat.testBit (msGet ms i) j <;> rfl

theorem pairsOk_sift {ms : List Nat} {n : Nat} : ∀ (fps : List (Nat × FP)), pairsOk ms n (sift fps) = pairsOk ms n fps := by
  intro fps
  induction fps with
  | nil => rfl
  | cons p fps ih =>
    obtain ⟨i, fi⟩ := p
    simp only [sift]
    rcases addF_cases i fi (sift fps) with ⟨hd, he⟩ | he
    · rw [he, ih]
      simp only [pairsOk, compatAll_dull hd]
    · rw [he]
      simp only [pairsOk, ih, compatAll_sift]

section
variable (P : Program) (nG : Nat)

def orderK (ops : Array Oper) : List Nat := orderFK (masks ops.toList) ops.toList ops.size 0

theorem orderK_eq (ops : Array Oper) : orderK ops = order ops := orderFK_eq _ _ _ _

def drEnd (ms : List Nat) (lim : Nat) (r : Option (Tm × St × List (Nat × FP))) : Option (Tm × St) := match r with
  | none => none
  | some (tm', σ', fps) => match pairsOk ms lim fps with
    | true => some (tm', σ')
    | false => none

def _root_.Go.Ev.St.nxK (σ : St) (n : Pos) : St := match σ with
  | ⟨hp, _, lo⟩ => ⟨hp, n, lo⟩

def drawK (cf : CallF) (ops : Array Oper) (tm : Tm) (σ : St) : Option (Tm × St) := match Nat.ble σ.lo σ.nx.toNat, drawOk ops (orderK ops) with
  | true, true => drEnd (masks ops.toList) (addPos σ.nx ops.size).toNat
      (drOpsK P nG cf ops.toList (masks ops.toList) ops.size σ.nx (addPos σ.nx ops.size).toNat (orderK ops) tm (σ.nxK (addPos σ.nx ops.size)))
  | _, _ => none

theorem drawK_eq (cf : CallF) (ops : Array Oper) (tm : Tm) (σ : St) : drawK P nG cf ops tm σ = drawRegion P nG cf ops tm σ := by
  unfold drawK drawRegion
  rw [orderK_eq]
  simp only
  cases Nat.ble σ.lo σ.nx.toNat with
  | false => rfl
  | true =>
    cases drawOk ops (order ops) with
    | false => rfl
    | true =>
      simp only [drOpsK_eq, show σ.nxK (addPos σ.nx ops.size) = { σ with nx := addPos σ.nx ops.size } from rfl]
      cases drawOps P nG cf ops σ.nx (addPos σ.nx ops.size).toNat (order ops) tm { σ with nx := addPos σ.nx ops.size } with
      | none => rfl
      | some r =>
        obtain ⟨tm', σ', fps⟩ := r
        simp only [drEnd, pairsOk_sift]
        rfl

/-! #### Code -/

variable (X : ExtF)

def seqR (k : Tm → List Pos → St → R) (r : R) : R := match r with
  | .nrm tm dm σ => k tm dm σ
  | r => r

def condR (b : Option Bool) (x y : R) : R := match b with
  | some true => x
  | some false => y
  | none => .fail

def blockR (id : Nat) (r : R) : R := match r with
  | .ex j tm dm σ => match Nat.beq j id with
    | true => .nrm tm dm σ
    | false => .ex j tm dm σ
  | r => r

def regR (dm : List Pos) (r : Option (Tm × St)) : R := match r with
  | some (tm, σ) => .nrm tm dm σ
  | none => .fail

def regionR (dr : Bool) (ev : EvF) (ops : Array Oper) (tm : Tm) (dm : List Pos) (σ : St) : R := match dr with
  | false => regR dm (seqK P nG (callW P nG X ev) (yieldW ev) ops.toList ops.toList tm σ)
  | true => regR dm (drawK P nG (callW P nG X ev) ops tm σ)

abbrev StepF := Program → Nat → ExtF → EvF → Nat → Option Pos → Tm → List Pos → St → R

/-- One step into code. -/
def stepK (c : Code) : StepF := Code.rec (motive := fun _ => StepF)
  (fun _ _ _ _ _ _ tm dm σ => .nrm tm dm σ)
  (fun _ ops dr P nG X ev _ _ tm dm σ => regionR P nG X dr ev ops tm dm σ)
  (fun a b _ _ _ _ _ ev _ rnd tm dm σ => seqR (ev rnd b) (ev rnd a tm dm σ))
  (fun x a b _ _ _ nG _ ev _ rnd tm dm σ => condR (evA nG tm x).asBool (ev rnd a tm dm σ) (ev rnd b tm dm σ))
  (fun id b _ _ _ _ ev _ rnd tm dm σ => blockR id (ev rnd b tm dm σ))
  (fun b _ _ _ _ ev n rnd tm dm σ => iter (ev rnd b) n tm dm σ)
  (fun f ps assign body _ _ P nG X ev _ rnd tm dm σ => rangeW P nG (callW P nG X ev) rnd f ps assign body tm dm σ)
  (fun id _ _ _ _ _ _ tm dm σ => .ex id tm dm σ)
  (fun b _ _ _ _ ev _ rnd tm dm σ => ev rnd b tm dm σ)
  (fun _ _ _ _ _ _ _ tm dm σ => .nrm tm dm σ)
  (fun _ _ _ _ _ _ _ _ _ _ => .fail)
  (fun _ _ _ _ _ _ tm dm σ => .ret tm dm σ)
  (fun _ _ _ _ _ _ _ _ _ _ => .fail)
  c

def evK (n : Nat) : EvF := Nat.rec (motive := fun _ => EvF) (fun _ _ _ _ _ => .fail) (fun n ih rnd c tm dm σ => stepK c P nG X ih n rnd tm dm σ) n

theorem stepK_eq (n : Nat) (rnd : Option Pos) (c : Code) (tm : Tm) (dm : List Pos) (σ : St) : stepK c P nG X (evC P nG X n) n rnd tm dm σ = evC P nG X (n + 1) rnd c tm dm σ := by
  cases c with
  | region id ops dr =>
    cases dr with
    | false =>
      show regR dm (seqK P nG (callW P nG X (evC P nG X n)) (yieldW (evC P nG X n)) ops.toList ops.toList tm σ) = _
      have := seqK_eq P nG (callW P nG X (evC P nG X n)) (yieldW (evC P nG X n)) ops ops.size 0 (by simp) tm σ
      rw [List.drop_zero] at this
      rw [this, ← List.range_eq_range']
      simp only [evC, regR]
      cases seqOps P nG (callW P nG X (evC P nG X n)) (yieldW (evC P nG X n)) ops (List.range ops.size) tm σ <;> rfl
    | true =>
      show regR dm (drawK P nG (callW P nG X (evC P nG X n)) ops tm σ) = _
      rw [drawK_eq]
      simp only [evC, regR]
      cases drawRegion P nG (callW P nG X (evC P nG X n)) ops tm σ <;> rfl
  | seq a b =>
    show seqR (evC P nG X n rnd b) (evC P nG X n rnd a tm dm σ) = _
    simp only [evC, seqR]
    cases evC P nG X n rnd a tm dm σ <;> rfl
  | cond x a b =>
    show condR (evA nG tm x).asBool (evC P nG X n rnd a tm dm σ) (evC P nG X n rnd b tm dm σ) = _
    simp only [evC, condR]
    cases evA nG tm x with
    | bool t => cases t <;> rfl
    | _ => rfl
  | block id b =>
    show blockR id (evC P nG X n rnd b tm dm σ) = _
    simp only [evC, blockR]
    cases evC P nG X n rnd b tm dm σ <;> rfl
  | _ => rfl

theorem evK_eq : ∀ (n : Nat), evK P nG X n = evC P nG X n := by
  intro n
  induction n with
  | zero => funext rnd c tm dm σ; rfl
  | succ n ih =>
    funext rnd c tm dm σ
    show stepK c P nG X (evK P nG X n) n rnd tm dm σ = _
    rw [ih]
    exact stepK_eq P nG X n rnd c tm dm σ

/-- A call. -/
def evKF (n : Nat) : CallF := callW P nG X (evK P nG X n)

theorem evKF_eq (n : Nat) : evKF P nG X n = evF P nG X n := by
  unfold evKF evF
  rw [evK_eq]

end
end --all
end Go.Ev
