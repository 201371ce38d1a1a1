/- An evaluator of the model over an abstract heap is sound: values, the heap, operations that are no call. Conditions: none beyond those that each theorem names. -/
import Derived.CallsIn
import Derived.OrdersIn
import Derived.LoopIn
import Derived.RangeFuncLeaves
import Derived.RangeFuncIn
import Derived.RangeFuncRecord
import Derived.Below
import Derived.WalkKit
namespace Go.Ev

/-! ### Numbers as rows of bits; tries -/

inductive Pos where
  | xH
  | xO (p : Pos)
  | xI (p : Pos)

def Pos.toNat : Pos → Nat
  | .xH => 1
  | .xO p => Nat.mul 2 p.toNat
  | .xI p => Nat.succ (Nat.mul 2 p.toNat)

def Pos.succ : Pos → Pos
  | .xH => .xO .xH
  | .xO p => .xI p
  | .xI p => .xO p.succ

def Pos.beq : Pos → Pos → Bool
  | .xH, .xH => true
  | .xO p, .xO q => p.beq q
  | .xI p, .xI q => p.beq q
  | _, _ => false

def Pos.ofSucc : Nat → Pos
  | 0 => .xH
  | n + 1 => (Pos.ofSucc n).succ

/-- by halves: the fuel is the number itself. -/
def Pos.ofNatF : Nat → Nat → Pos
  | 0, _ => .xH
  | f + 1, n => match Nat.ble n 1 with
    | true => .xH
    | false => match Nat.beq (Nat.mod n 2) 0 with
      | true => .xO (Pos.ofNatF f (Nat.div n 2))
      | false => .xI (Pos.ofNatF f (Nat.div n 2))

def Pos.ofNat (n : Nat) : Pos := Pos.ofNatF 64 n

theorem Pos.toNat_pos (p : Pos) : 0 < p.toNat := by
  induction p with
  | xH => simp [Pos.toNat]
  | xO p ih => simp only [Pos.toNat, Nat.mul_eq]; omega
  | xI p ih => simp only [Pos.toNat, Nat.mul_eq, Nat.succ_eq_add_one]; omega

theorem Pos.toNat_inj : ∀ {p q : Pos}, p.toNat = q.toNat → p = q := by
  intro p
  induction p with
  | xH =>
    intro q h
    cases q with
    | xH => rfl
    | xO q => have := q.toNat_pos; simp only [Pos.toNat, Nat.mul_eq] at h; omega
    | xI q => have := q.toNat_pos; simp only [Pos.toNat, Nat.mul_eq, Nat.succ_eq_add_one] at h; omega
  | xO p ih =>
    intro q h
    cases q with
    | xH => have := p.toNat_pos; simp only [Pos.toNat, Nat.mul_eq] at h; omega
    | xO q => simp only [Pos.toNat, Nat.mul_eq] at h; rw [ih (q := q) (by omega)]
    | xI q => simp only [Pos.toNat, Nat.mul_eq, Nat.succ_eq_add_one] at h; omega
  | xI p ih =>
    intro q h
    cases q with
    | xH => have := p.toNat_pos; simp only [Pos.toNat, Nat.mul_eq, Nat.succ_eq_add_one] at h; omega
    | xO q => simp only [Pos.toNat, Nat.mul_eq, Nat.succ_eq_add_one] at h; omega
    | xI q => simp only [Pos.toNat, Nat.mul_eq, Nat.succ_eq_add_one] at h; rw [ih (q := q) (by omega)]

theorem Pos.toNat_succ (p : Pos) : p.succ.toNat = p.toNat + 1 := by
  induction p with
  | xH => rfl
  | xO p ih => simp [Pos.succ, Pos.toNat]
  | xI p ih => simp only [Pos.succ, Pos.toNat, Nat.mul_eq, Nat.succ_eq_add_one, ih]; omega

theorem Pos.beq_iff : ∀ {p q : Pos}, p.beq q = true ↔ p = q := by
  intro p
  induction p with
  | xH => intro q; cases q <;> simp [Pos.beq]
  | xO p ih => intro q; cases q <;> simp [Pos.beq, ih]
  | xI p ih => intro q; cases q <;> simp [Pos.beq, ih]

theorem Pos.toNat_ofNatF : ∀ (f n : Nat), 0 < n → n < 2 ^ f → (Pos.ofNatF f n).toNat = n := by
  intro f
  induction f with
  | zero => intro n h0 h; simp at h; omega
  | succ f ih =>
    intro n h0 h
    simp only [Pos.ofNatF]
    cases h1 : Nat.ble n 1 with
    | true => have := Nat.le_of_ble_eq_true h1; simp [Pos.toNat]; omega
    | false =>
      have h1' : ¬ n ≤ 1 := fun h => by rw [Nat.ble_eq_true_of_le h] at h1; cases h1
      have hd : 0 < n / 2 := by omega
      have hd2 : n / 2 < 2 ^ f := by rw [Nat.pow_succ] at h; omega
      have hm := ih (n / 2) hd hd2
      cases h2 : Nat.beq (Nat.mod n 2) 0 with
      | true =>
        have := Nat.eq_of_beq_eq_true h2
        show Nat.mul 2 (Pos.ofNatF f (n / 2)).toNat = n
        rw [hm]; simp only [Nat.mul_eq]
        have h3 : n % 2 = 0 := this
        omega
      | false =>
        have h3 : n % 2 ≠ 0 := fun e => by
          have : Nat.beq (n % 2) 0 = true := by rw [e]; rfl
          rw [show Nat.mod n 2 = n % 2 from rfl, this] at h2; cases h2
        show Nat.succ (Nat.mul 2 (Pos.ofNatF f (n / 2)).toNat) = n
        rw [hm]; simp only [Nat.mul_eq, Nat.succ_eq_add_one]
        omega

theorem Pos.toNat_ofNat (n : Nat) (h0 : 0 < n) (h : n < 2 ^ 64) : (Pos.ofNat n).toNat = n := Pos.toNat_ofNatF 64 n h0 h

inductive PTree (α : Type) where
  | leaf
  | node (l : PTree α) (v : Option α) (r : PTree α)

/-- By the recursors themselves: the kernel runs through them in fewer steps. -/
noncomputable def PTree.get {α : Type} (t : PTree α) : Pos → Option α := PTree.rec (motive := fun _ => Pos → Option α)
  (fun _ => none) (fun _ v _ ihl ihr p => Pos.rec (motive := fun _ => Option α) v (fun q _ => ihl q) (fun q _ => ihr q) p) t

noncomputable def PTree.set {α : Type} (x : α) (t : PTree α) (p : Pos) : PTree α := Pos.rec (motive := fun _ => PTree α → PTree α)
  (fun t => PTree.rec (motive := fun _ => PTree α) (.node .leaf (some x) .leaf) (fun l _ r _ _ => .node l (some x) r) t)
  (fun _ ih t => PTree.rec (motive := fun _ => PTree α) (.node (ih .leaf) none .leaf) (fun l v r _ _ => .node (ih l) v r) t)
  (fun _ ih t => PTree.rec (motive := fun _ => PTree α) (.node .leaf none (ih .leaf)) (fun l v r _ _ => .node l v (ih r)) t)
  p t

theorem PTree.get_leaf {α : Type} (p : Pos) : (PTree.leaf : PTree α).get p = none := rfl
theorem PTree.get_node_xH {α : Type} (l : PTree α) (v : Option α) (r : PTree α) : (PTree.node l v r).get .xH = v := rfl
theorem PTree.get_node_xO {α : Type} (l : PTree α) (v : Option α) (r : PTree α) (p : Pos) : (PTree.node l v r).get (.xO p) = l.get p := rfl
theorem PTree.get_node_xI {α : Type} (l : PTree α) (v : Option α) (r : PTree α) (p : Pos) : (PTree.node l v r).get (.xI p) = r.get p := rfl
theorem PTree.set_leaf_xH {α : Type} (x : α) : PTree.set x .leaf .xH = .node .leaf (some x) .leaf := rfl
theorem PTree.set_leaf_xO {α : Type} (x : α) (p : Pos) : PTree.set x .leaf (.xO p) = .node (PTree.set x .leaf p) none .leaf := rfl
theorem PTree.set_leaf_xI {α : Type} (x : α) (p : Pos) : PTree.set x .leaf (.xI p) = .node .leaf none (PTree.set x .leaf p) := rfl
theorem PTree.set_node_xH {α : Type} (x : α) (l : PTree α) (v : Option α) (r : PTree α) : PTree.set x (.node l v r) .xH = .node l (some x) r := rfl
theorem PTree.set_node_xO {α : Type} (x : α) (l : PTree α) (v : Option α) (r : PTree α) (p : Pos) : PTree.set x (.node l v r) (.xO p) = .node (l.set x p) v r := rfl
theorem PTree.set_node_xI {α : Type} (x : α) (l : PTree α) (v : Option α) (r : PTree α) (p : Pos) : PTree.set x (.node l v r) (.xI p) = .node l v (r.set x p) := rfl

theorem PTree.get_set_same {α : Type} (x : α) : ∀ (p : Pos) (t : PTree α), (t.set x p).get p = some x := by
  intro p
  induction p with
  | xH => intro t; cases t <;> rfl
  | xO p ih => intro t; cases t <;> exact ih _
  | xI p ih => intro t; cases t <;> exact ih _

theorem PTree.get_set_other {α : Type} (x : α) : ∀ (p q : Pos) (t : PTree α), p ≠ q → (t.set x p).get q = t.get q := by
  intro p
  induction p with
  | xH => intro q t h; cases t <;> cases q <;> first | rfl | exact absurd rfl h
  | xO p ih =>
    intro q t h
    cases q with
    | xO q =>
      have hne : p ≠ q := fun e => h (by rw [e])
      cases t <;> exact ih q _ hne
    | xH => cases t <;> rfl
    | xI q => cases t <;> rfl
  | xI p ih =>
    intro q t h
    cases q with
    | xI q =>
      have hne : p ≠ q := fun e => h (by rw [e])
      cases t <;> exact ih q _ hne
    | xH => cases t <;> rfl
    | xO q => cases t <;> rfl

instance : DecidableEq Pos := fun p q => decidable_of_iff (p.beq q = true) Pos.beq_iff

theorem PTree.get_set {α : Type} (x : α) (t : PTree α) (p q : Pos) : (t.set x p).get q = if p = q then some x else t.get q := by
  split
  · rename_i h; subst h; exact PTree.get_set_same x p t
  · rename_i h; exact PTree.get_set_other x p q t h

/-! ### Values -/

inductive AV where
  | und
  | bool (b : Bool)
  | int (k : IntKind) (n : Int)
  | flt (bits : Nat)
  | str (s : List Nat)
  | nilp
  | ptr (b : Pos) (o : Nat)
  | nils
  | sl (b : Pos) (o len cap : Nat) (opn : Bool)
  | sle
  | nilm
  | mp (b : Pos)
  | nilf
  | fn (f : FuncId) (first cap : List AV)
  | mth (name : String) (first cap : List AV)
  | yl (b : Pos)
  | nili
  | ifc (t : TypeId) (v : AV)
  | agg (cs : List AV)
  | tup (vs : List AV)
  | val (v : Value)

/-- Where a row of the abstract heap lies: its block, where it begins there, how many elements more the block has behind it. -/
structure Loc where
  blk : Nat
  off : Nat
  extra : Nat

abbrev Rho := Pos → Option Loc

def bytesOf (b : ByteArray) : List Nat := b.data.toList.map UInt8.toNat

inductive VR (ρ : Rho) : AV → Value → Prop
  | und (v : Value) : VR ρ .und v
  | bool (b : Bool) : VR ρ (.bool b) (.bool b)
  | int (k : IntKind) (n : Int) : VR ρ (.int k n) (.int k n)
  | flt (n : Nat) : VR ρ (.flt n) (.float .f64 n)
  | str {s : List Nat} {b : ByteArray} : bytesOf b = s → VR ρ (.str s) (.string b)
  | nilp : VR ρ .nilp (.pointer none)
  | ptr {b : Pos} {o : Nat} {l : Loc} : ρ b = some l → VR ρ (.ptr b o) (.pointer (some ⟨l.blk, l.off + o, none⟩))
  | nils : VR ρ .nils (.slice none 0 0)
  | sl {b : Pos} {o len cap : Nat} {opn : Bool} {l : Loc} : ρ b = some l →
      VR ρ (.sl b o len cap opn) (.slice (some ⟨l.blk, l.off + o, none⟩) len (if opn then cap + l.extra else cap))
  | sle (a : Addr) (c : Nat) : VR ρ .sle (.slice (some a) 0 c)
  | nilm : VR ρ .nilm (.map none)
  | mp {b : Pos} {l : Loc} : ρ b = some l → VR ρ (.mp b) (.map (some l.blk))
  | nilf : VR ρ .nilf .nilFunc
  | fn {f : FuncId} {xs ys : List AV} {vs us : Array Value} : xs.length = vs.size → (∀ (i : Nat) (x : AV) (v : Value), xs[i]? = some x → vs[i]? = some v → VR ρ x v) →
      ys.length = us.size → (∀ (i : Nat) (x : AV) (v : Value), ys[i]? = some x → us[i]? = some v → VR ρ x v) → VR ρ (.fn f xs ys) (.func (.func f) vs us)
  | mth {name : String} {xs ys : List AV} {vs us : Array Value} : xs.length = vs.size → (∀ (i : Nat) (x : AV) (v : Value), xs[i]? = some x → vs[i]? = some v → VR ρ x v) →
      ys.length = us.size → (∀ (i : Nat) (x : AV) (v : Value), ys[i]? = some x → us[i]? = some v → VR ρ x v) → VR ρ (.mth name xs ys) (.func (.method name) vs us)
  | yl {b : Pos} {l : Loc} : ρ b = some l → VR ρ (.yl b) (.func (.yield l.blk) #[] #[])
  | nili : VR ρ .nili .nilIface
  | ifc {t : TypeId} {x : AV} {v : Value} : VR ρ x v → VR ρ (.ifc t x) (.iface t v)
  | agg {xs : List AV} {vs : Array Value} : xs.length = vs.size → (∀ (i : Nat) (x : AV) (v : Value), xs[i]? = some x → vs[i]? = some v → VR ρ x v) → VR ρ (.agg xs) (.agg vs)
  | tup {xs : List AV} {vs : Array Value} : xs.length = vs.size → (∀ (i : Nat) (x : AV) (v : Value), xs[i]? = some x → vs[i]? = some v → VR ρ x v) → VR ρ (.tup xs) (.tuple vs)
  | val (v : Value) : VR ρ (.val v) v

/-- One list beside another, place by place. -/
def VRs (ρ : Rho) (xs : List AV) (vs : List Value) : Prop := xs.length = vs.length ∧ ∀ (i : Nat) (x : AV) (v : Value), xs[i]? = some x → vs[i]? = some v → VR ρ x v

def Rho.le (ρ ρ' : Rho) : Prop := ∀ b l, ρ b = some l → ρ' b = some l

theorem Rho.le_refl (ρ : Rho) : ρ.le ρ := fun _ _ h => h
theorem Rho.le_trans {a b c : Rho} (h : a.le b) (k : b.le c) : a.le c := fun x l hx => k x l (h x l hx)

theorem VR.mono {ρ ρ' : Rho} (h : ρ.le ρ') {x : AV} {v : Value} (r : VR ρ x v) : VR ρ' x v := by
  induction r with
  | und v => exact .und v
  | bool b => exact .bool b
  | int k n => exact .int k n
  | flt n => exact .flt n
  | str e => exact .str e
  | nilp => exact .nilp
  | ptr e => exact .ptr (h _ _ e)
  | nils => exact .nils
  | sl e => exact .sl (h _ _ e)
  | sle a c => exact .sle a c
  | nilm => exact .nilm
  | mp e => exact .mp (h _ _ e)
  | nilf => exact .nilf
  | fn e _ e' _ ih ih' => exact .fn e (fun i x v a b => ih i x v a b) e' (fun i x v a b => ih' i x v a b)
  | mth e _ e' _ ih ih' => exact .mth e (fun i x v a b => ih i x v a b) e' (fun i x v a b => ih' i x v a b)
  | yl e => exact .yl (h _ _ e)
  | nili => exact .nili
  | ifc _ ih => exact .ifc ih
  | agg e _ ih => exact .agg e (fun i x v a b => ih i x v a b)
  | tup e _ ih => exact .tup e (fun i x v a b => ih i x v a b)
  | val v => exact .val v

theorem VRs.mono {ρ ρ' : Rho} (h : ρ.le ρ') {xs : List AV} {vs : List Value} (r : VRs ρ xs vs) : VRs ρ' xs vs := ⟨r.1, fun i x v a b => (r.2 i x v a b).mono h⟩

theorem VRs.nil (ρ : Rho) : VRs ρ [] [] := ⟨rfl, fun i x v h => by simp at h⟩
theorem VRs.cons {ρ : Rho} {x : AV} {v : Value} {xs : List AV} {vs : List Value} (h : VR ρ x v) (r : VRs ρ xs vs) : VRs ρ (x :: xs) (v :: vs) := by
  refine ⟨by simp [r.1], fun i y u hy hu => ?_⟩
  cases i with
  | zero => simp at hy hu; subst hy; subst hu; exact h
  | succ i => simp at hy hu; exact r.2 i y u hy hu
theorem VRs.append {ρ : Rho} {xs ys : List AV} {vs us : List Value} (h : VRs ρ xs vs) (k : VRs ρ ys us) : VRs ρ (xs ++ ys) (vs ++ us) := by
  induction xs generalizing vs with
  | nil =>
    cases vs with
    | nil => exact k
    | cons v vs => have := h.1; simp at this
  | cons x xs ih =>
    cases vs with
    | nil => have := h.1; simp at this
    | cons v vs =>
      have h0 := h.2 0 x v rfl rfl
      have ht : VRs ρ xs vs := ⟨by have := h.1; simpa using this, fun i y u a b => h.2 (i + 1) y u (by simpa using a) (by simpa using b)⟩
      exact .cons h0 (ih ht)
theorem VRs.take {ρ : Rho} {xs : List AV} {vs : List Value} (h : VRs ρ xs vs) (n : Nat) : VRs ρ (xs.take n) (vs.take n) := by
  refine ⟨by simp [h.1], fun i x v hx hv => ?_⟩
  rw [List.getElem?_take] at hx hv
  by_cases hi : i < n
  · simp [hi] at hx hv; exact h.2 i x v hx hv
  · simp [hi] at hx
theorem VRs.drop {ρ : Rho} {xs : List AV} {vs : List Value} (h : VRs ρ xs vs) (n : Nat) : VRs ρ (xs.drop n) (vs.drop n) := by
  refine ⟨by simp [h.1], fun i x v hx hv => ?_⟩
  rw [List.getElem?_drop] at hx hv
  exact h.2 _ x v hx hv
theorem VRs.of_agg {ρ : Rho} {xs : List AV} {v : Value} (h : VR ρ (.agg xs) v) : ∃ vs : Array Value, v = .agg vs ∧ VRs ρ xs vs.toList := by
  cases h with
  | agg e hh => exact ⟨_, rfl, by simpa using e, fun i x v a b => hh i x v a (by simpa using b)⟩
theorem VRs.to_agg {ρ : Rho} {xs : List AV} {vs : List Value} (h : VRs ρ xs vs) : VR ρ (.agg xs) (.agg vs.toArray) :=
  .agg (by simpa using h.1) (fun i x v a b => h.2 i x v a (by simpa using b))
theorem VRs.to_tup {ρ : Rho} {xs : List AV} {vs : List Value} (h : VRs ρ xs vs) : VR ρ (.tup xs) (.tuple vs.toArray) :=
  .tup (by simpa using h.1) (fun i x v a b => h.2 i x v a (by simpa using b))
theorem VRs.get {ρ : Rho} {xs : List AV} {vs : List Value} (h : VRs ρ xs vs) {i : Nat} {x : AV} (hx : xs[i]? = some x) : ∃ v, vs[i]? = some v ∧ VR ρ x v := by
  have hi : i < xs.length := (List.getElem?_eq_some_iff.1 hx).1
  have hi' : i < vs.length := by rw [← h.1]; exact hi
  exact ⟨vs[i], by simp [hi'], h.2 i x _ hx (by simp [hi'])⟩

end Go.Ev

namespace Go.Ev
noncomputable section --all

/-- What is kept: which blocks may be written; what the others hold. -/
structure Bd where
  mod : Nat → Prop
  H0 : Nat → Option Obj

/-- The streams are kept; no block has gone. -/
structure Bel (B : Bd) (w w' : World) : Prop where
  os : w'.os = w.os
  tape : w'.tape = w.tape
  output : w'.output = w.output
  size : w.heap.size ≤ w'.heap.size

theorem Bel.refl (B : Bd) (w : World) : Bel B w w := ⟨rfl, rfl, rfl, Nat.le_refl _⟩
theorem Bel.trans {B : Bd} {a b c : World} (h : Bel B a b) (k : Bel B b c) : Bel B a c := ⟨k.os.trans h.os, k.tape.trans h.tape, k.output.trans h.output, Nat.le_trans h.size k.size⟩
theorem Bel.drew {B : Bd} {a w : World} (h : Bel B a w) : Bel B a w.drew := ⟨h.os, h.tape, h.output, h.size⟩
theorem Bel.alloc {B : Bd} {a w : World} (h : Bel B a w) (_ : ∀ j, w.heap.size ≤ j → B.mod j) (o : Obj) : Bel B a (w.alloc o) := h.trans ⟨rfl, rfl, rfl, by simp⟩
theorem Bel.heap_alloc (w : World) (o : Obj) (k : Nat) (h : k < w.heap.size) : (w.alloc o).heap[k]? = w.heap[k]? := Go.RowKit.Below.heap_alloc w o k h

/-- A frame's slots: how many, and what they hold. -/
structure Tm where
  N : Nat
  t : PTree AV

def Tm.get (tm : Tm) (i : Nat) : AV := match tm.t.get (Pos.ofSucc i) with | some v => v | none => .und
def Tm.put (tm : Tm) (d : Option Nat) (v : AV) : Tm :=
  match d with
  | none => tm
  | some d => match Nat.blt d tm.N with
    | true => ⟨tm.N, tm.t.set v (Pos.ofSucc d)⟩
    | false => tm

theorem Pos.toNat_ofSucc (n : Nat) : (Pos.ofSucc n).toNat = n + 1 := by
  induction n with
  | zero => rfl
  | succ n ih => simp [Pos.ofSucc, Pos.toNat_succ, ih]
theorem Pos.ofSucc_inj {m n : Nat} (h : Pos.ofSucc m = Pos.ofSucc n) : m = n := by
  have := congrArg Pos.toNat h
  rw [Pos.toNat_ofSucc, Pos.toNat_ofSucc] at this; omega

structure TR (ρ : Rho) (tm : Tm) (a : Array Value) : Prop where
  size : a.size = tm.N
  at_ : ∀ (i : Nat) (v : Value), a[i]? = some v → VR ρ (tm.get i) v

theorem TR.mono {ρ ρ' : Rho} (h : ρ.le ρ') {tm : Tm} {a : Array Value} (r : TR ρ tm a) : TR ρ' tm a := ⟨r.size, fun i v e => (r.at_ i v e).mono h⟩

theorem TR.put {ρ : Rho} {tm : Tm} {a : Array Value} (r : TR ρ tm a) (d : Nat) {x : AV} {v : Value} (h : VR ρ x v) : TR ρ (tm.put (some d) x) (a.setIfInBounds d v) := by
  unfold Tm.put
  simp only
  cases hb : Nat.blt d tm.N with
  | false =>
    have : ¬ d < tm.N := fun e => by rw [show Nat.blt d tm.N = true from Nat.ble_eq_true_of_le e] at hb; cases hb
    have hs := r.size
    rw [Array.setIfInBounds_eq_of_size_le (by omega)]
    exact r
  | true =>
    refine ⟨by simp [r.size], fun i u hu => ?_⟩
    by_cases hi : d = i
    · subst hi
      have hlt : d < a.size := by
        rcases Nat.lt_or_ge d a.size with h' | h'
        · exact h'
        · rw [Array.getElem?_eq_none (by simpa using h')] at hu; cases hu
      rw [Array.getElem?_setIfInBounds_self_of_lt hlt] at hu
      cases hu
      simpa [Tm.get, PTree.get_set_same] using h
    · rw [Array.getElem?_setIfInBounds_ne hi] at hu
      have := r.at_ i u hu
      have hne : Pos.ofSucc d ≠ Pos.ofSucc i := fun e => hi (Pos.ofSucc_inj e)
      simpa [Tm.get, PTree.get_set_other _ _ _ _ hne] using this

theorem TR.putO {ρ : Rho} {tm : Tm} {a : Act} (r : TR ρ tm a.tmps) (d : Option Nat) {x : AV} {v : Value} (h : VR ρ x v) : TR ρ (tm.put d x) (a.put d v).tmps := by
  cases d with
  | none => exact r
  | some d => exact r.put d h

/-! ### The abstract heap -/

inductive ABlk where
  | row (cells : List AV) (t : TypeId) (sz : Nat) (opn wr : Bool)
  | map (es : List (AV × AV × Nat)) (clock : Nat)
  | siter (s : List Nat) (pos : Nat)
  | loop (st : LoopState) (pend : Option Code) (tm : Tm) (ps : Array Tmp) (assign body : Code) (dfr : Pos)
  | dfr (opened : Bool)
  | dead

def ABlk.live : ABlk → Bool
  | .dead => false
  | _ => true

/-- May it be written? -/
def ABlk.wrt : ABlk → Bool
  | .dead => false
  | .row _ _ _ _ wr => wr
  | _ => true

theorem ABlk.wrt_live {x : ABlk} (h : x.wrt = true) : x.live = true := by cases x <;> first | rfl | cases h

structure St where
  hp : PTree ABlk
  nx : Pos
  lo : Nat

def BlkRel (ρ : Rho) (base : Bd) (w : World) (l : Loc) : ABlk → Prop
  | .row cells _ sz opn wr => ∃ (arr : Array Value) (t : TypeId) (lo hi : Nat), w.heap[l.blk]? = some (.cells arr t (lo, hi)) ∧ l.off + cells.length + l.extra * sz ≤ arr.size ∧
      (opn = false → l.extra = 0) ∧ (wr = true → base.mod l.blk) ∧ (wr = true → ∀ j, j < arr.size → ¬ (lo ≤ j ∧ j < hi)) ∧ ∀ (i : Nat) (x : AV) (v : Value), cells[i]? = some x → arr[l.off + i]? = some v → VR ρ x v
  | .map es clock => ∃ es' : Array MapEntry, w.heap[l.blk]? = some (.map es' clock) ∧ base.mod l.blk ∧ es.length = es'.size ∧
      ∀ (i : Nat) (k v : AV) (n : Nat) (e : MapEntry), es[i]? = some (k, v, n) → es'[i]? = some e → VR ρ k e.key ∧ VR ρ v e.val ∧ e.born = n
  | .siter s pos => ∃ b : ByteArray, w.heap[l.blk]? = some (.stringIter b pos) ∧ bytesOf b = s ∧ base.mod l.blk ∧ l.off = 0
  | .loop st pend tm ps assign body d => ∃ (fn : FuncId) (arr : Array Value) (ld : Loc), w.heap[l.blk]? = some (.loop { state := st, pending := pend, fn, tmps := arr, params := ps, assign, body, defers := ld.blk }) ∧
      TR ρ tm arr ∧ ρ d = some ld ∧ base.mod l.blk
  | .dfr o => w.heap[l.blk]? = some (.deferred (if o then some [] else none)) ∧ base.mod l.blk
  | .dead => True

theorem BlkRel.keep {ρ ρ' : Rho} {base : Bd} {w w' : World} {l : Loc} {x : ABlk} (h : BlkRel ρ base w l x) (hr : ρ.le ρ')
    (hw : x.live = true → w'.heap[l.blk]? = w.heap[l.blk]?) : BlkRel ρ' base w' l x := by
  cases x with
  | row cells t sz opn wr =>
    obtain ⟨arr, tt, lo, hi, h1, h2, h3, h4, h5, h6⟩ := h
    exact ⟨arr, tt, lo, hi, (hw rfl).trans h1, h2, h3, h4, h5, fun i x v a b => (h6 i x v a b).mono hr⟩
  | map es clock =>
    obtain ⟨es', h1, h2, h3, h4⟩ := h
    exact ⟨es', (hw rfl).trans h1, h2, h3, fun i k v n e a b => let ⟨p, q, r⟩ := h4 i k v n e a b; ⟨p.mono hr, q.mono hr, r⟩⟩
  | siter s pos =>
    obtain ⟨b, h1, h2⟩ := h
    exact ⟨b, (hw rfl).trans h1, h2⟩
  | loop st pend tm ps assign body d =>
    obtain ⟨fn, arr, ld, h1, h2, h3, h4⟩ := h
    exact ⟨fn, arr, ld, (hw rfl).trans h1, h2.mono hr, hr _ _ h3, h4⟩
  | dfr o => exact ⟨(hw rfl).trans h.1, h.2⟩
  | dead => trivial

theorem BlkRel.lt {ρ : Rho} {base : Bd} {w : World} {l : Loc} {x : ABlk} (h : BlkRel ρ base w l x) (hx : x.live = true) : l.blk < w.heap.size := by
  have key : ∀ o, w.heap[l.blk]? = some o → l.blk < w.heap.size := fun o ho => (Array.getElem?_eq_some_iff.1 ho).1
  cases x with
  | row cells t sz opn wr => obtain ⟨arr, tt, lo, hi, h1, _⟩ := h; exact key _ h1
  | map es clock => obtain ⟨es', h1, _⟩ := h; exact key _ h1
  | siter s pos => obtain ⟨b, h1, _⟩ := h; exact key _ h1
  | loop st pend tm ps assign body d => obtain ⟨fn, arr, ld, h1, _⟩ := h; exact key _ h1
  | dfr o => exact key _ h.1
  | dead => cases hx

structure Rel (base : Bd) (ρ : Rho) (σ : St) (w : World) : Prop where
  dom : ∀ b l, ρ b = some l → σ.hp.get b ≠ none
  blk : ∀ b x, σ.hp.get b = some x → ∃ l, ρ b = some l ∧ BlkRel ρ base w l x
  inj : ∀ b c l m x y, ρ b = some l → ρ c = some m → σ.hp.get b = some x → σ.hp.get c = some y → x.wrt = true → y.live = true → l.blk = m.blk → b = c
  le : ∀ j, w.heap.size ≤ j → base.mod j
  old : ∀ j, ¬ base.mod j → w.heap[j]? = base.H0 j

theorem Rel.mine {base : Bd} {ρ : Rho} {σ : St} {w : World} (h : Rel base ρ σ w) : base.mod w.heap.size := h.le _ (Nat.le_refl _)

theorem Rel.at_ {base : Bd} {ρ : Rho} {σ : St} {w : World} (h : Rel base ρ σ w) {b : Pos} {l : Loc} {x : ABlk} (hb : σ.hp.get b = some x) (hl : ρ b = some l) : BlkRel ρ base w l x := by
  obtain ⟨l', h1, h2⟩ := h.blk b x hb
  rw [hl] at h1; cases h1; exact h2

def Rho.upd (ρ : Rho) (b : Pos) (l : Loc) : Rho := fun c => if c = b then some l else ρ c

theorem Rho.le_upd {ρ : Rho} {b : Pos} {l : Loc} (h : ρ b = none) : ρ.le (ρ.upd b l) := fun c m hc => by
  unfold Rho.upd
  split
  · rename_i e; subst e; rw [h] at hc; cases hc
  · exact hc
theorem Rho.upd_same {ρ : Rho} {b : Pos} {l : Loc} : ρ.upd b l b = some l := by simp [Rho.upd]

theorem Rel.unset {base : Bd} {ρ : Rho} {σ : St} {w : World} (h : Rel base ρ σ w) {b : Pos} (hb : σ.hp.get b = none) : ρ b = none := by
  cases hr : ρ b with
  | none => rfl
  | some l => exact absurd hb (h.dom b l hr)

/-- The worlds are the same but for block k; sizes alike. -/
structure SameBut (w w' : World) (k : Nat) : Prop where
  os : w'.os = w.os
  tape : w'.tape = w.tape
  output : w'.output = w.output
  size : w'.heap.size = w.heap.size
  other : ∀ j, j ≠ k → w'.heap[j]? = w.heap[j]?

theorem SameBut.refl (w : World) (k : Nat) : SameBut w w k := ⟨rfl, rfl, rfl, rfl, fun _ _ => rfl⟩
theorem SameBut.trans {a b c : World} {k : Nat} (h : SameBut a b k) (h' : SameBut b c k) : SameBut a c k :=
  ⟨h'.os.trans h.os, h'.tape.trans h.tape, h'.output.trans h.output, h'.size.trans h.size, fun j hj => (h'.other j hj).trans (h.other j hj)⟩
theorem SameBut.below {w w' : World} {k : Nat} {base : Bd} (h : SameBut w w' k) (_ : base.mod k) : Bel base w w' :=
  ⟨h.os, h.tape, h.output, by rw [h.size]; exact Nat.le_refl _⟩

/-- The heap is as it was (a draw). -/
theorem Rel.sameHeap {base : Bd} {ρ : Rho} {σ : St} {w w' : World} (h : Rel base ρ σ w) (hh : w'.heap = w.heap) : Rel base ρ σ w' :=
  ⟨h.dom, fun b x hb => let ⟨l, h1, h2⟩ := h.blk b x hb; ⟨l, h1, h2.keep (Rho.le_refl _) (fun _ => by rw [hh])⟩, h.inj, by rw [hh]; exact h.le, by rw [hh]; exact h.old⟩

/-- One block is written. -/
theorem Rel.upd {base : Bd} {ρ : Rho} {σ : St} {w w' : World} (h : Rel base ρ σ w) {b : Pos} {l : Loc} {x x' : ABlk} (hb : σ.hp.get b = some x) (hl : ρ b = some l) (hx : x.wrt = true)
    (hs : SameBut w w' l.blk) (hm : base.mod l.blk) (hn : BlkRel ρ base w' l x') : Rel base ρ { σ with hp := σ.hp.set x' b } w' := by
  refine ⟨fun c m hc => ?_, fun c y hc => ?_, fun c d m m' y y' hm hm' hy hy' ly ly' e => ?_, by rw [hs.size]; exact h.le, fun j hj => (hs.other j (fun e => hj (e ▸ hm))).trans (h.old j hj)⟩
  · simp only [PTree.get_set]; split
    · simp
    · exact h.dom c m hc
  · simp only [PTree.get_set] at hc
    split at hc
    · rename_i e; subst e; cases hc; exact ⟨l, hl, hn⟩
    · rename_i e
      obtain ⟨m, h1, h2⟩ := h.blk c y hc
      refine ⟨m, h1, h2.keep (Rho.le_refl _) (fun ly => hs.other _ (fun em => e (h.inj b c l m x y hl h1 hb hc hx ly em.symm)))⟩
  · simp only [PTree.get_set] at hy hy'
    have key : ∀ (c : Pos) (y : ABlk), (if b = c then some x' else σ.hp.get c) = some y → y.live = true → ∃ z, σ.hp.get c = some z ∧ z.live = true := by
      intro c y hc ly
      split at hc
      · rename_i e; subst e; exact ⟨x, hb, ABlk.wrt_live hx⟩
      · exact ⟨y, hc, ly⟩
    have key2 : ∀ (c : Pos) (y : ABlk), (if b = c then some x' else σ.hp.get c) = some y → y.wrt = true → ∃ z, σ.hp.get c = some z ∧ z.wrt = true := by
      intro c y hc ly
      split at hc
      · rename_i e; subst e; exact ⟨x, hb, hx⟩
      · exact ⟨y, hc, ly⟩
    obtain ⟨z, hz, lz⟩ := key2 c y hy ly
    obtain ⟨z', hz', lz'⟩ := key d y' hy' ly'
    exact h.inj c d m m' z z' hm hm' hz hz' lz lz' e

/-- A new block. -/
theorem Rel.new {base : Bd} {ρ : Rho} {σ : St} {w : World} (h : Rel base ρ σ w) {b : Pos} {l : Loc} {x : ABlk} {o : Obj} (hb : σ.hp.get b = none) (hl : l.blk = w.heap.size)
    (hn : BlkRel (ρ.upd b l) base (w.alloc o) l x) : Rel base (ρ.upd b l) { σ with hp := σ.hp.set x b } (w.alloc o) := by
  have hle := Rho.le_upd (l := l) (h.unset hb)
  have key : ∀ c y m, c ≠ b → σ.hp.get c = some y → (ρ.upd b l) c = some m → ρ c = some m := fun c y m hc _ hm => by simpa [Rho.upd, hc] using hm
  refine ⟨fun c m hc => ?_, fun c y hc => ?_, fun c d m m' y y' hm hm' hy hy' ly ly' e => ?_, fun j hj => h.le j (by rw [World.size_alloc] at hj; omega), fun j hj => ?_⟩
  · simp only [PTree.get_set]; split
    · simp
    · rename_i e
      exact h.dom c m (by simpa [Rho.upd, Ne.symm e] using hc)
  · simp only [PTree.get_set] at hc
    split at hc
    · rename_i e; subst e; cases hc; exact ⟨l, Rho.upd_same, hn⟩
    · obtain ⟨m, h1, h2⟩ := h.blk c y hc
      refine ⟨m, hle _ _ h1, h2.keep hle (fun ly => ?_)⟩
      exact Bel.heap_alloc w o _ (h2.lt ly)
  · simp only [PTree.get_set] at hy hy'
    have lt : ∀ c y m, c ≠ b → σ.hp.get c = some y → y.live = true → (ρ.upd b l) c = some m → m.blk < w.heap.size := fun c y m hc hy ly hm =>
      (h.at_ hy (key c y m hc hy hm)).lt ly
    by_cases hcb : b = c
    · by_cases hdb : b = d
      · rw [← hcb, ← hdb]
      · rw [if_neg hdb] at hy'
        subst hcb
        rw [Rho.upd_same] at hm; cases hm
        have := lt d y' m' (Ne.symm hdb) hy' ly' hm'
        omega
    · rw [if_neg hcb] at hy
      by_cases hdb : b = d
      · subst hdb
        rw [Rho.upd_same] at hm'; cases hm'
        have := lt c y m (Ne.symm hcb) hy (ABlk.wrt_live ly) hm
        omega
      · rw [if_neg hdb] at hy'
        exact h.inj c d m m' y y' (key c y m (Ne.symm hcb) hy hm) (key d y' m' (Ne.symm hdb) hy' hm') hy hy' ly ly' e
  · by_cases hlt : j < w.heap.size
    · rw [Bel.heap_alloc _ _ _ hlt]; exact h.old j hj
    · exact absurd (h.le j (by omega)) hj

/-- A row that is open is taken over by a new one, in its place. -/
theorem Rel.take {base : Bd} {ρ : Rho} {σ : St} {w w' : World} (h : Rel base ρ σ w) {b c : Pos} {l m : Loc} {x y : ABlk} (hb : σ.hp.get b = some x) (hl : ρ b = some l) (hx : x.wrt = true)
    (hc : σ.hp.get c = none) (hm : m.blk = l.blk) (hs : SameBut w w' l.blk) (hmo : base.mod l.blk) (hn : BlkRel (ρ.upd c m) base w' m y) :
    Rel base (ρ.upd c m) { σ with hp := (σ.hp.set .dead b).set y c } w' := by
  have hle := Rho.le_upd (l := m) (h.unset hc)
  have hbc : b ≠ c := fun e => by rw [e, hc] at hb; cases hb
  have key : ∀ d k, d ≠ c → (ρ.upd c m) d = some k → ρ d = some k := fun d k hd hk => by simpa [Rho.upd, hd] using hk
  have getd : ∀ d, ((σ.hp.set .dead b).set y c).get d = if c = d then some y else if b = d then some .dead else σ.hp.get d := fun d => by
    rw [PTree.get_set]; split
    · rfl
    · rw [PTree.get_set]
  refine ⟨fun d k hd => ?_, fun d z hd => ?_, fun d e k k' z z' hk hk' hz hz' lz lz' he => ?_, by rw [hs.size]; exact h.le, fun j hj => (hs.other j (fun e => hj (e ▸ hmo))).trans (h.old j hj)⟩
  · simp only [getd]
    split
    · simp
    · rename_i e1
      split
      · simp
      · exact h.dom d k (key d k (Ne.symm e1) hd)
  · simp only [getd] at hd
    split at hd
    · rename_i e; subst e; cases hd; exact ⟨m, Rho.upd_same, hn⟩
    · split at hd
      · rename_i e; subst e; cases hd; exact ⟨l, hle _ _ hl, trivial⟩
      · rename_i e1 e2
        obtain ⟨k, h1, h2⟩ := h.blk d z hd
        exact ⟨k, hle _ _ h1, h2.keep hle (fun lz => hs.other _ (fun em => e2 (h.inj b d l k x z hl h1 hb hd hx lz em.symm)))⟩
  · simp only [getd] at hz hz'
    have old : ∀ d z k, c ≠ d → (if b = d then some ABlk.dead else σ.hp.get d) = some z → z.live = true → (ρ.upd c m) d = some k → b ≠ d ∧ σ.hp.get d = some z ∧ ρ d = some k := by
      intro d z k hcd hz lz hk
      split at hz
      · cases hz; cases lz
      · rename_i e; exact ⟨e, hz, key d k (Ne.symm hcd) hk⟩
    by_cases h1 : c = d
    · by_cases h2 : c = e
      · rw [← h1, ← h2]
      · rw [if_neg h2] at hz'
        obtain ⟨hbe, hz2, hk2⟩ := old e z' k' h2 hz' lz' hk'
        subst h1
        rw [Rho.upd_same] at hk; cases hk
        exact absurd (h.inj b e l k' x z' hl hk2 hb hz2 hx lz' (by omega)) hbe
    · rw [if_neg h1] at hz
      obtain ⟨hbd, hz1, hk1⟩ := old d z k h1 hz (ABlk.wrt_live lz) hk
      by_cases h2 : c = e
      · subst h2
        rw [Rho.upd_same] at hk'; cases hk'
        exact absurd (h.inj b d l k x z hl hk1 hb hz1 hx (ABlk.wrt_live lz) (by omega)) hbd
      · rw [if_neg h2] at hz'
        obtain ⟨_, hz2, hk2⟩ := old e z' k' h2 hz' lz' hk'
        exact h.inj d e k k' z z' hk1 hk2 hz1 hz2 lz lz' he

end --all
end Go.Ev

namespace Go.Ev
noncomputable section --all

/-! ### What an operation that is no call does, over the abstract heap -/

structure MRes where
  val : Pos → AV
  upd : List (Pos × ABlk)
  nw : Option ABlk

inductive Deed where
  | val (v : AV)
  | mem (rs : List Pos) (k : List ABlk → Option MRes)
  | fail

def Deed.ofOption : Option AV → Deed
  | some v => .val v
  | none => .fail

/-- What is made: a new block, and what names it. -/
def Deed.new (x : ABlk) (k : Pos → AV) : Deed := .mem [] fun _ => some ⟨k, [], some x⟩
/-- What is read of one block. -/
def Deed.read (b : Pos) (k : ABlk → Option AV) : Deed := .mem [b] fun bs => match bs with
  | [x] => match k x with
    | some v => some ⟨fun _ => v, [], none⟩
    | none => none
  | _ => none
/-- One block is written. -/
def Deed.write (b : Pos) (k : ABlk → Option (AV × ABlk)) : Deed := .mem [b] fun bs => match bs with
  | [x] => match k x with
    | some (v, y) => some ⟨fun _ => v, [(b, y)], none⟩
    | none => none
  | _ => none

def getAll (hp : PTree ABlk) : List Pos → Option (List ABlk)
  | [] => some []
  | b :: bs => match hp.get b with
    | some x => match getAll hp bs with
      | some xs => some (x :: xs)
      | none => none
    | none => none

def setAll (lo : Nat) : List (Pos × ABlk) → PTree ABlk → Option (PTree ABlk)
  | [], hp => some hp
  | (b, x) :: r, hp => match Nat.ble lo b.toNat with
    | true => match hp.get b with
      | some _ => setAll lo r (hp.set x b)
      | none => none
    | false => none

/-- The deed done; nid: the number of a block that it may make; the last: has it made one? -/
def Deed.run (d : Deed) (nid : Pos) (σ : St) : Option (AV × St × Bool) :=
  match d with
  | .val v => some (v, σ, false)
  | .fail => none
  | .mem rs k => match getAll σ.hp rs with
    | none => none
    | some bs => match k bs with
      | none => none
      | some r => match setAll σ.lo r.upd σ.hp with
        | none => none
        | some hp => match r.nw with
          | none => some (r.val nid, ⟨hp, σ.nx, σ.lo⟩, false)
          | some x => match hp.get nid with
            | some _ => none
            | none => some (r.val nid, ⟨hp.set x nid, σ.nx, σ.lo⟩, true)

/-! ### Constants -/

def ofConstF : Nat → Value → AV
  | 0, _ => .und
  | n + 1, v => match v with
    | .bool b => .bool b
    | .int k i => .int k i
    | .float .f64 b => .flt b
    | .string s => .str (bytesOf s)
    | .pointer none => .nilp
    | .slice none 0 0 => .nils
    | .map none => .nilm
    | .nilFunc => .nilf
    | .func (.func f) xs ys => match xs.toList, ys.toList with
      | [], [] => .fn f [] []
      | _, _ => .und
    | .nilIface => .nili
    | .iface t x => .ifc t (ofConstF n x)
    | .agg cs => .agg (cs.toList.map (ofConstF n))
    | .tuple cs => .tup (cs.toList.map (ofConstF n))
    | _ => .und

def ofConst (v : Value) : AV := ofConstF 3 v

def evA (nG : Nat) (tm : Tm) : Operand → AV
  | .tmp t => match Nat.blt t tm.N with
    | true => tm.get t
    | false => .und
  | .const v => ofConst v
  | .global g => match Nat.blt g nG with
    | true => .ptr (Pos.ofSucc g) 0
    | false => .und
  | .func f => .fn f [] []

/-! ### Types -/

/-- Does it fill one cell? -/
def isCell : Value → Bool
  | .agg _ | .tuple _ => false
  | _ => true

def cellsA : AV → Option (List AV)
  | .und | .tup _ => none
  | .agg cs => some cs
  | .val v => match isCell v with | true => some [.val v] | false => none
  | v => some [v]

def zeroA (P : Program) (t : TypeId) : Option AV := match P.info? t with
  | some i => match i.zero with
    | some v => some (ofConst v)
    | none => none
  | none => none

def zeroC (P : Program) (t : TypeId) : Option (List AV) := match zeroA P t with
  | some v => cellsA v
  | none => none

/-- Is it a struct or an array? -/
def aggT (P : Program) (t : TypeId) : Option Bool := match P.underlying t with
  | some (.struct _) => some true
  | some (.array _ _) => some true
  | some _ => some false
  | none => none

def sizeT (P : Program) (t : TypeId) : Option Nat := match P.info? t with
  | some i => some i.size
  | none => none

def bytesT (P : Program) (t : TypeId) : Option Nat := match P.info? t with
  | some i => some i.bytes
  | none => none

/-- May it stand in a cell, and is it known? -/
def okCell : AV → Bool
  | .und | .agg _ | .tup _ => false
  | .val v => isCell v
  | _ => true

/-! ### Numbers -/

def maxNat : IntKind → Nat
  | .i8 => 127 | .i16 => 32767 | .i32 => 2147483647 | .i64 => 9223372036854775807
  | .u8 => 255 | .u16 => 65535 | .u32 => 4294967295 | .u64 => 18446744073709551615

def wrapA (k : IntKind) (n : Int) : Int := match n with
  | .ofNat m => match Nat.ble m (maxNat k) with
    | true => .ofNat m
    | false => k.wrap (.ofNat m)
  | .negSucc m => k.wrap (.negSucc m)

def eqI : Int → Int → Bool
  | .ofNat a, .ofNat b => Nat.beq a b
  | .negSucc a, .negSucc b => Nat.beq a b
  | _, _ => false
def ltI : Int → Int → Bool
  | .ofNat a, .ofNat b => Nat.blt a b
  | .negSucc _, .ofNat _ => true
  | .ofNat _, .negSucc _ => false
  | .negSucc a, .negSucc b => Nat.blt b a
def leI (a b : Int) : Bool := match ltI b a with | true => false | false => true

def eqK : IntKind → IntKind → Bool
  | .i8, .i8 | .i16, .i16 | .i32, .i32 | .i64, .i64 | .u8, .u8 | .u16, .u16 | .u32, .u32 | .u64, .u64 => true
  | _, _ => false

def eqL : List Nat → List Nat → Bool
  | [], [] => true
  | a :: x, b :: y => match Nat.beq a b with | true => eqL x y | false => false
  | _, _ => false
def ltL : List Nat → List Nat → Bool
  | _, [] => false
  | [], _ :: _ => true
  | a :: x, b :: y => match Nat.blt a b with | true => true | false => match Nat.beq a b with | true => ltL x y | false => false

def bnot : Bool → Bool | true => false | false => true

def intA (op : BinOp) (k : IntKind) (x y : Int) : Option AV := match op with
  | .add => some (.int k (wrapA k (x + y)))
  | .sub => some (.int k (wrapA k (x - y)))
  | .mul => some (.int k (wrapA k (x * y)))
  | .quo => match eqI y 0 with | true => none | false => some (.int k (wrapA k (x.tdiv y)))
  | .rem => match eqI y 0 with | true => none | false => some (.int k (x.tmod y))
  | .and => some (.int k (k.wrap ((BitVec.ofInt k.bits x &&& BitVec.ofInt k.bits y).toNat)))
  | .or => some (.int k (k.wrap ((BitVec.ofInt k.bits x ||| BitVec.ofInt k.bits y).toNat)))
  | .xor => some (.int k (k.wrap ((BitVec.ofInt k.bits x ^^^ BitVec.ofInt k.bits y).toNat)))
  | .andNot => some (.int k (k.wrap ((BitVec.ofInt k.bits x &&& ~~~ BitVec.ofInt k.bits y).toNat)))
  | .eql => some (.bool (eqI x y))
  | .neq => some (.bool (bnot (eqI x y)))
  | .lss => some (.bool (ltI x y))
  | .leq => some (.bool (leI x y))
  | .gtr => some (.bool (ltI y x))
  | .geq => some (.bool (leI y x))
  | _ => none

def strA (op : BinOp) (x y : List Nat) : Option AV := match op with
  | .add => match Nat.ble (x.length + y.length) 1000000000 with | true => some (.str (x ++ y)) | false => none
  | .eql => some (.bool (eqL x y))
  | .neq => some (.bool (bnot (eqL x y)))
  | .lss => some (.bool (ltL x y))
  | .leq => some (.bool (bnot (ltL y x)))
  | .gtr => some (.bool (ltL y x))
  | .geq => some (.bool (bnot (ltL x y)))
  | _ => none

def floA (op : BinOp) (x y : Nat) : Option AV := match op with
  | .add => match FloatKind.f64.format.add x y with | some r => some (.flt r) | none => none
  | .sub => match FloatKind.f64.format.sub x y with | some r => some (.flt r) | none => none
  | .mul => match FloatKind.f64.format.mul x y with | some r => some (.flt r) | none => none
  | .quo => match FloatKind.f64.format.div x y with | some r => some (.flt r) | none => none
  | .eql => some (.bool (FloatKind.f64.format.order x y == some .eq))
  | .neq => some (.bool (FloatKind.f64.format.order x y != some .eq))
  | .lss => some (.bool (FloatKind.f64.format.order x y == some .lt))
  | .leq => some (.bool (FloatKind.f64.format.order x y == some .lt || FloatKind.f64.format.order x y == some .eq))
  | .gtr => some (.bool (FloatKind.f64.format.order x y == some .gt))
  | .geq => some (.bool (FloatKind.f64.format.order x y == some .gt || FloatKind.f64.format.order x y == some .eq))
  | _ => none

/-- Is one of two values of a type nil, and which is known of the other? Whether they are equal. -/
def nilEq (P : Program) (t : TypeId) (lit : Bool) (x y : AV) : Option Bool := match P.underlying t with
  | some .bool => match x, y with
    | .bool a, .bool b => some (match a with | true => b | false => bnot b)
    | _, _ => none
  | some (.pointer _) => match x, y with
    | .nilp, .nilp => some true
    | .nilp, .ptr _ _ => some false
    | .ptr _ _, .nilp => some false
    | _, _ => none
  | some (.slice _) => match x, y with
    | .nils, .nils => some true
    | .nils, .sl .. => some false
    | .sl .., .nils => some false
    | .nils, .sle => some false
    | .sle, .nils => some false
    | _, _ => none
  | some (.map _ _) => match x, y with
    | .nilm, .nilm => some true
    | .nilm, .mp _ => some false
    | .mp _, .nilm => some false
    | _, _ => none
  | some (.func _ _ _) => match x, y with
    | .nilf, .nilf => some true
    | .nilf, .fn .. => some false
    | .fn .., .nilf => some false
    | .nilf, .yl _ => some false
    | .yl _, .nilf => some false
    | _, _ => none
  | some (.interface _) => match x, y with
    | .nili, .nili => match lit with | true => some true | false => none
    | .nili, .ifc _ _ => some false
    | .ifc _ _, .nili => some false
    | .ifc s _, .ifc u _ => match Nat.beq s u with | true => none | false => some false
    | _, _ => none
  | _ => none

def isLit : Operand → Bool
  | .const _ => true
  | _ => false

def binA (P : Program) (op : BinOp) (t : TypeId) (lit : Bool) (x y : AV) : Option AV := match x, y with
  | .int k a, .int k' b => match op with
    | .shl => match b with | .ofNat n => some (.int k (k.wrap (a * 2 ^ (min n k.bits)))) | .negSucc _ => none
    | .shr => match b with | .ofNat n => some (.int k (a.fdiv (2 ^ (min n k.bits)))) | .negSucc _ => none
    | op => match eqK k k' with | true => intA op k a b | false => none
  | .str a, .str b => strA op a b
  | .flt a, .flt b => floA op a b
  | x, y => match op with
    | .eql => match nilEq P t lit x y with | some r => some (.bool r) | none => none
    | .neq => match nilEq P t lit x y with | some r => some (.bool (bnot r)) | none => none
    | _ => none

def unA (op : UnOp) (x : AV) : Option AV := match op, x with
  | .neg, .int k n => some (.int k (wrapA k (0 - n)))
  | .not, .bool b => some (.bool (bnot b))
  | _, _ => none

/-! ### Parts of structs -/

def partA (P : Program) (t : TypeId) (cs : List AV) (off : Nat) : Option AV := match aggT P t with
  | some true => match sizeT P t with
    | some n => some (.agg ((cs.drop off).take n))
    | none => none
  | some false => cs[off]?
  | none => none

def splice (cs : List AV) (off : Nat) (vs : List AV) : List AV := cs.take off ++ vs ++ cs.drop (off + vs.length)

def fillA (place : Nat → Option (Nat × Nat)) (cells : List AV) : List (Nat × AV) → Option (List AV)
  | [] => some cells
  | (i, v) :: rest => match place i with
    | none => none
    | some (off, size) => match cellsA v with
      | none => none
      | some vs => match Nat.beq vs.length size with
        | false => none
        | true => match Nat.ble (off + size) cells.length with
          | false => none
          | true => fillA place (splice cells off vs) rest

def fieldsOf (P : Program) (s : TypeId) : Option (Array Field) := match P.underlying s with
  | some (.struct fs) => some fs
  | _ => none

/-- A struct's places, if all its fields' types are known. -/
def placesA (P : Program) (fs : Array Field) : Option (List (Nat × Nat)) :=
  fs.toList.foldr (fun f r => match sizeT P f.type, r with | some n, some l => some ((f.offset, n) :: l) | _, _ => none) (some [])

def buildA (P : Program) (t : TypeId) (parts : List (Nat × AV)) : Option AV := match zeroC P t with
  | none => none
  | some z => match P.underlying t with
    | some (.struct fs) => match placesA P fs with
      | some pl => match fillA (fun i => pl[i]?) z parts with
        | some cs => some (.agg cs)
        | none => none
      | none => none
    | some (.array _ e) => match sizeT P e with
      | some n => match fillA (fun i => some (i * n, n)) z parts with
        | some cs => some (.agg cs)
        | none => none
      | none => none
    | _ => none

def repl {α : Type} : Nat → List α → List α
  | 0, _ => []
  | n + 1, l => l ++ repl n l

def elemOfSlice (P : Program) (t : TypeId) : Option TypeId := match P.underlying t with
  | some (.slice e) => some e
  | _ => none

def litA (P : Program) (t : TypeId) (len : Nat) (parts : List (Nat × AV)) : Deed := match elemOfSlice P t with
  | none => .fail
  | some e => match sizeT P e, zeroC P e with
    | some n, some z => match Nat.beq z.length n, Nat.ble (len * n) 16777216, Nat.ble 1 n with
      | true, true, true => match fillA (fun i => some (i * n, n)) (repl len z) parts with
        | some cs => .new (.row cs e n false true) fun p => .sl p 0 len len false
        | none => .fail
      | _, _, _ => .fail
    | _, _ => .fail

/-! ### Loads and stores -/

def rowCells : ABlk → Option (List AV)
  | .row cells _ _ _ _ => some cells
  | _ => none

def loadA (P : Program) (t : TypeId) (x : AV) : Deed := match x with
  | .ptr b o => match aggT P t with
    | some false => .read b fun y => match y with
      | .row cells _ _ _ _ => match cells[o]? with
        | some v => some v
        | none => none
      | _ => none
    | some true => match sizeT P t with
      | some n => .read b fun y => match y with
        | .row cells _ _ _ _ => match Nat.ble (o + n) cells.length with
          | true => some (.agg ((cells.drop o).take n))
          | false => none
        | _ => none
      | none => .fail
    | none => .fail
  | _ => .fail

def storeRow (o : Nat) (vs : List AV) (y : ABlk) : Option ABlk := match y with
  | .row cells t sz opn true => match Nat.ble (o + vs.length) cells.length with
    | true => some (.row (splice cells o vs) t sz opn true)
    | false => none
  | _ => none

def allOk : List AV → Bool
  | [] => true
  | v :: vs => match okCell v with | true => allOk vs | false => false

def storeA (P : Program) (t : TypeId) (x y : AV) : Deed := match x with
  | .ptr b o => match cellsA y, sizeT P t with
    | some vs, some n => match Nat.beq vs.length n, allOk vs with
      | true, true => .write b fun z => match storeRow o vs z with
        | some z' => some (.und, z')
        | none => none
      | _, _ => .fail
    | _, _ => .fail
  | _ => .fail

/-! ### Conversions -/

def byteCells (s : List Nat) : List AV := s.map fun n => .int .u8 (.ofNat n)

def natsOf : List AV → Option (List Nat)
  | [] => some []
  | .int .u8 (.ofNat n) :: r => match Nat.ble n 255 with
    | true => match natsOf r with
      | some l => some (n :: l)
      | none => none
    | false => none
  | _ :: _ => none

def convA (P : Program) (src dst : TypeId) (x : AV) : Deed := match x with
  | .int _ n => match P.underlying src, P.underlying dst with
    | some _, some (.int k) => .val (.int k (wrapA k n))
    | some _, some (.float .f64) => .val (.flt (FloatKind.f64.nearest n))
    | _, _ => .fail
  | .str s => match P.underlying src, P.underlying dst with
    | some .string, some .string => .val (.str s)
    | some .string, some (.slice e) => match P.underlying e with
      | some (.int .u8) => .new (.row (byteCells s) e 1 true true) fun p => .sl p 0 s.length s.length true
      | _ => .fail
    | _, _ => .fail
  | .nils => match P.underlying src, P.underlying dst with
    | some (.slice e), some .string => match P.underlying e with
      | some (.int .u8) => .val (.str [])
      | _ => .fail
    | _, _ => .fail
  | .sl b o len _ _ => match P.underlying src, P.underlying dst with
    | some (.slice e), some .string => match P.underlying e with
      | some (.int .u8) => .read b fun y => match y with
        | .row cells _ _ _ _ => match Nat.ble (o + len) cells.length with
          | true => match natsOf ((cells.drop o).take len) with
            | some l => some (.str l)
            | none => none
          | false => none
        | _ => none
      | _ => .fail
    | _, _ => .fail
  | _ => .fail

/-! ### Addresses -/

def fieldAddrA (P : Program) (s : TypeId) (x : AV) (f : Nat) : Option AV := match x with
  | .ptr b o => match fieldsOf P s with
    | some fs => match fs[f]? with
      | some fl => match sizeT P fl.type with
        | some (_ + 1) => some (.ptr b (o + fl.offset))
        | _ => none
      | none => none
    | none => none
  | _ => none

def fieldA (P : Program) (s : TypeId) (x : AV) (f : Nat) : Option AV := match x with
  | .agg cs => match fieldsOf P s with
    | some fs => match fs[f]? with
      | some fl => partA P fl.type cs fl.offset
      | none => none
    | none => none
  | _ => none

def indexAddrA (P : Program) (t : TypeId) (x i : AV) : Option AV := match i with
  | .int _ (.ofNat n) => match P.underlying t, x with
    | some (.slice e), .sl b o len _ _ => match sizeT P e, Nat.blt n len with
      | some sz, true => some (.ptr b (o + n * sz))
      | _, _ => none
    | some (.array len e), .ptr b o => match sizeT P e, Nat.blt n len with
      | some sz, true => some (.ptr b (o + n * sz))
      | _, _ => none
    | _, _ => none
  | _ => none

def indexA (P : Program) (t : TypeId) (x i : AV) : Option AV := match i with
  | .int _ (.ofNat n) => match P.underlying t, x with
    | some (.array len e), .agg cs => match sizeT P e, Nat.blt n len with
      | some sz, true => partA P e cs (n * sz)
      | _, _ => none
    | some .string, .str s => match s[n]? with
      | some c => some (.int .u8 (.ofNat c))
      | none => none
    | _, _ => none
  | _ => none

def natOr (d : Nat) : Option AV → Option Nat
  | none => some d
  | some (.int _ (.ofNat n)) => some n
  | some _ => none

def sliceA (P : Program) (t : TypeId) (x : AV) (lo hi mx : Option AV) : Option AV := match P.underlying t, x with
  | some .string, .str s => match mx with
    | some _ => none
    | none => match natOr s.length hi with
      | none => none
      | some h => match natOr 0 lo with
        | none => none
        | some l => match Nat.ble h s.length, Nat.ble l h with
          | true, true => some (.str ((s.drop l).take (h - l)))
          | _, _ => none
  | some (.slice e), .nils => match (match mx with | none => true | some _ => hi.isSome), natOr 0 hi, natOr 0 lo, natOr 0 mx, sizeT P e with
    | true, some 0, some 0, some 0, some _ => some .nils
    | _, _, _, _, _ => none
  | some (.slice e), .sle => match mx, natOr 0 hi, natOr 0 lo, sizeT P e with
    | none, some 0, some 0, some _ => some .sle
    | _, _, _, _ => none
  | some (.slice e), .sl b o len cap opn => match mx with
    | none => match natOr len hi with
      | none => none
      | some h => match natOr 0 lo, sizeT P e with
        | some l, some sz => match Nat.ble h cap, Nat.ble l h with
          | true, true => match Nat.beq cap l with
            | true => match opn with
              | true => some .sle
              | false => some (.sl b o (h - l) 0 false)
            | false => some (.sl b (o + l * sz) (h - l) (cap - l) opn)
          | _, _ => none
        | _, _ => none
    | some m => match natOr 0 (some m), hi with
      | some m, some h => match natOr 0 (some h), natOr 0 lo, sizeT P e with
        | some h, some l, some sz => match Nat.ble m cap, Nat.ble h m, Nat.ble l h with
          | true, true, true => match Nat.beq m l with
            | true => some (.sl b o (h - l) 0 false)
            | false => some (.sl b (o + l * sz) (h - l) (m - l) false)
          | _, _, _ => none
        | _, _, _ => none
      | _, _ => none
  | some (.array n e), .ptr b o => match mx with
    | some _ => none
    | none => match natOr n hi with
      | none => none
      | some h => match natOr 0 lo, sizeT P e with
        | some l, some sz => match Nat.ble h n, Nat.ble l h with
          | true, true => match Nat.beq n l with
            | true => some (.sl b o (h - l) 0 false)
            | false => some (.sl b (o + l * sz) (h - l) (n - l) false)
          | _, _ => none
        | _, _ => none
  | _, _ => none

/-! ### Maps -/

def eqKey : AV → AV → Option Bool
  | .int k a, .int k' b => match eqK k k' with | true => some (eqI a b) | false => none
  | .str a, .str b => some (eqL a b)
  | _, _ => none

def findA (k : AV) : List (AV × AV × Nat) → Nat → Option (Option (Nat × AV))
  | [], _ => some none
  | (k', v, _) :: r, i => match eqKey k k' with
    | some true => some (some (i, v))
    | some false => findA k r (i + 1)
    | none => none

def plainKey (P : Program) (t : TypeId) (k : AV) : Bool := match P.underlying t, k with
  | some (.int _), .int _ _ => true
  | some .string, .str _ => true
  | _, _ => false

def giveA (ok : Bool) (z : AV) (r : Option (Nat × AV)) : AV := match r with
  | some (_, v) => match ok with | true => .tup [v, .bool true] | false => v
  | none => match ok with | true => .tup [z, .bool false] | false => z

def lookupA (P : Program) (t : TypeId) (x i : AV) (ok : Bool) : Deed := match P.underlying t with
  | some (.map kt et) => match plainKey P kt i, zeroA P et with
    | true, some z => match x with
      | .nilm => .val (giveA ok z none)
      | .mp b => .read b fun y => match y with
        | .map es _ => match findA i es 0 with
          | some r => some (giveA ok z r)
          | none => none
        | _ => none
      | _ => .fail
    | _, _ => .fail
  | _ => .fail

def putAt {α : Type} : List α → Nat → α → List α
  | [], _, _ => []
  | _ :: r, 0, x => x :: r
  | y :: r, n + 1, x => y :: putAt r n x

def mapPutA (P : Program) (t : TypeId) (m k v : AV) : Deed := match P.underlying t with
  | some (.map kt _) => match plainKey P kt k with
    | true => match m with
      | .mp b => .write b fun y => match y with
        | .map es c => match findA k es 0 with
          | some (some (i, _)) => match es[i]? with
            | some (_, _, n) => some (.und, .map (putAt es i (k, v, n)) c)
            | none => none
          | some none => some (.und, .map (es ++ [(k, v, c)]) (c + 1))
          | none => none
        | _ => none
      | _ => .fail
    | false => .fail
  | _ => .fail

/-! ### Makes -/

def makeSliceA (P : Program) (t : TypeId) (l c : AV) : Deed := match l, c with
  | .int _ (.ofNat l), .int _ (.ofNat c) => match elemOfSlice P t with
    | none => .fail
    | some e => match sizeT P e, zeroC P e, bytesT P e with
      | some n, some z, some by_ => match Nat.beq z.length n, Nat.ble l c, Nat.ble 1 n, Nat.ble (by_ * c) 1000000000, Nat.ble c 1000000000 with
        | true, true, true, true, true => .new (.row (repl c z) e n false true) fun p => .sl p 0 l c false
        | _, _, _, _, _ => .fail
      | _, _, _ => .fail
  | _, _ => .fail

def typeAssertA (P : Program) (x : AV) (t : TypeId) (ok : Bool) : Option AV := match P.underlying t with
  | some (.interface _) => none
  | some _ => match ok with
    | true => match zeroA P t with
      | some z => match x with
        | .nili => some (.tup [z, .bool false])
        | .ifc u v => match Nat.beq u t with
          | true => some (.tup [v, .bool true])
          | false => some (.tup [z, .bool false])
        | _ => none
      | none => none
    | false => match x with
      | .ifc u v => match Nat.beq u t with
        | true => some v
        | false => none
      | _ => none
  | none => none

/-! ### The built-in functions -/

def lenA (P : Program) (t : TypeId) (x : AV) : Deed := match P.underlying t, x with
  | some .string, .str s => .val (.int .i64 (.ofNat s.length))
  | some (.array n _), _ => .val (.int .i64 (.ofNat n))
  | some (.slice _), .nils => .val (.int .i64 (.ofNat 0))
  | some (.slice _), .sl _ _ n _ _ => .val (.int .i64 (.ofNat n))
  | some (.slice _), .sle => .val (.int .i64 (.ofNat 0))
  | some (.map _ _), .nilm => .val (.int .i64 (.ofNat 0))
  | some (.map _ _), .mp b => .read b fun y => match y with
    | .map es _ => some (.int .i64 (.ofNat es.length))
    | _ => none
  | _, _ => .fail

def max2A (mx : Bool) (x y : AV) : Option AV := match x, y with
  | .int k a, .int _ b => match mx with
    | true => match ltI a b with | true => some (.int k b) | false => some (.int k a)
    | false => match ltI b a with | true => some (.int k b) | false => some (.int k a)
  | .flt a, .flt b => match FloatKind.f64.format.order a b with
    | none => none
    | some .lt => some (.flt (match mx with | true => b | false => a))
    | some .gt => some (.flt (match mx with | true => a | false => b))
    | some .eq => some (.flt (match (FloatKind.f64.decode a).neg, mx with | true, true => b | true, false => a | false, true => a | false, false => b))
  | _, _ => none

def foldA (mx : Bool) : AV → List AV → Option AV
  | x, [] => some x
  | x, y :: r => match max2A mx x y with
    | some z => foldA mx z r
    | none => none

/-- What is appended: from a block, or by itself. -/
inductive Src where
  | cells (l : List AV) (n : Nat)
  | of (b : Pos) (o n : Nat)

def srcA (x : AV) : Option Src := match x with
  | .nils => some (.cells [] 0)
  | .sle => some (.cells [] 0)
  | .str s => some (.cells (byteCells s) s.length)
  | .sl b o n _ _ => some (.of b o n)
  | _ => none

def srcCells (sz : Nat) (s : Src) (y : Option ABlk) : Option (List AV) := match s with
  | .cells l n => match Nat.beq l.length (n * sz) with
    | true => some l
    | false => none
  | .of _ o n => match y with
    | some (.row cells _ _ _ _) => match Nat.ble (o + n * sz) cells.length with
      | true => some ((cells.drop o).take (n * sz))
      | false => none
    | _ => none

def Src.n : Src → Nat
  | .cells _ n => n
  | .of _ _ n => n

def roomy (need by_ : Nat) : Bool := match Nat.ble need 1000000000, Nat.ble by_ 10000 with
  | true, true => true
  | _, _ => false

/-- The row that an append makes anew. -/
def freshRow (cs : List AV) (e sz : Nat) (need : Nat) : MRes := ⟨fun p => .sl p 0 need need true, [], some (.row cs e sz true true)⟩

/-- append, at a slice of block b that is handed in (y), the new cells known. -/
def appendTo (e sz by_ : Nat) (b : Pos) (o len cap : Nat) (opn : Bool) (n : Nat) (new : List AV) (y : ABlk) : Option MRes := match y with
  | .row cells t sz' opn' wr => match Nat.ble (len + n) cap with
    | true => match wr, Nat.ble (o + cap * sz) cells.length with
      | true, true => some ⟨fun _ => .sl b o (len + n) cap opn, [(b, .row (splice cells (o + len * sz) new) t sz' opn' wr)], none⟩
      | _, _ => none
    | false => match roomy (len + n) by_, Nat.ble (o + len * sz) cells.length with
      | true, true => match opn with
        | false => some (freshRow ((cells.drop o).take (len * sz) ++ new) e sz (len + n))
        | true => match wr, Nat.beq t e, Nat.beq sz' sz, Nat.beq (o + cap * sz) cells.length, Nat.ble len cap with
          | true, true, true, true, true => some ⟨fun p => .sl p 0 (len + n) (len + n) true, [(b, .dead)], some (.row ((cells.drop o).take (len * sz) ++ new) e sz true true)⟩
          | _, _, _, _, _ => none
      | _, _ => none
  | _ => none

def notInt (P : Program) (t : Option TypeId) : Bool := match t with
  | some t => match P.underlying t with
    | some (.int _) => false
    | some _ => true
    | none => false
  | none => false

def appendA (P : Program) (ts : Array TypeId) (s x : AV) : Deed := match ts[0]? with
  | none => .fail
  | some st => match elemOfSlice P st, notInt P ts[1]? with
    | some e, true => match sizeT P e, zeroC P e, bytesT P e, srcA x with
      | some sz, some z, some by_, some src => match Nat.beq z.length sz, Nat.ble 1 sz with
        | true, true => match s with
          | .nils => match src.n with
            | 0 => .val .nils
            | n => match roomy n by_ with
              | true => match src with
                | .cells l n => match srcCells sz (.cells l n) none with
                  | some new => .mem [] fun _ => some (freshRow new e sz n)
                  | none => .fail
                | .of c o n => .mem [c] fun bs => match bs with
                  | [y] => match srcCells sz (.of c o n) (some y) with
                    | some new => some (freshRow new e sz n)
                    | none => none
                  | _ => none
              | false => .fail
          | .sl b o len cap opn => match src with
            | .cells l n => match srcCells sz (.cells l n) none with
              | some new => match allOk new with
                | true => .mem [b] fun bs => match bs with
                  | [y] => appendTo e sz by_ b o len cap opn n new y
                  | _ => none
                | false => .fail
              | none => .fail
            | .of c oc n => .mem [b, c] fun bs => match bs with
              | [y, y'] => match srcCells sz (.of c oc n) (some y') with
                | some new => match allOk new with
                  | true => appendTo e sz by_ b o len cap opn n new y
                  | false => none
                | none => none
              | _ => none
          | _ => .fail
        | _, _ => .fail
      | _, _, _, _ => .fail
    | _, _ => .fail

def clearA (P : Program) (t : TypeId) (x : AV) : Deed := match P.underlying t, x with
  | some (.slice _), .nils => .val .und
  | some (.slice _), .sle => .val .und
  | some (.slice e), .sl b o n _ _ => match n with
    | 0 => .val .und
    | n + 1 => match sizeT P e, zeroC P e with
      | some sz, some z => match Nat.beq z.length sz, allOk z with
        | true, true => .write b fun y => match storeRow o (repl (n + 1) z) y with
          | some y' => some (.und, y')
          | none => none
        | _, _ => .fail
      | _, _ => .fail
  | _, _ => .fail

def builtinA (P : Program) (b : Builtin) (ts : Array TypeId) (args : List AV) : Deed := match b, args with
  | .len, [x] => match ts[0]? with
    | some t => lenA P t x
    | none => .fail
  | .append, [s, x] => appendA P ts s x
  | .max, x :: r => .ofOption (foldA true x r)
  | .min, x :: r => .ofOption (foldA false x r)
  | .clear, [x] => match ts[0]? with
    | some t => clearA P t x
    | none => .fail
  | _, _ => .fail

/-! ### Operations -/

/-- A range over a string begins. -/
def rangeA (P : Program) (t : TypeId) (x : AV) : Deed := match P.underlying t, x with
  | some .string, .str s => .new (.siter s 0) fun p => .ptr p 0
  | _, _ => .fail

/-- A range over a string goes on: letters below 128 alone. -/
def nextA (x : AV) : Deed := match x with
  | .ptr b o => match Nat.beq o 0 with
    | true => .write b fun y => match y with
      | .siter s pos => match s[pos]? with
        | some c => match Nat.blt c 128 with
          | true => some (.tup [.bool true, .int .i64 (.ofNat pos), .int .i32 (.ofNat c)], .siter s (pos + 1))
          | false => none
        | none => some (.tup [.bool false], .siter s pos)
      | _ => none
    | false => .fail
  | _ => .fail

def deed (P : Program) (o : Oper) (e : Operand → AV) : Deed := match o.op with
  | .move x => .val (e x)
  | .assign x => .val (e x)
  | .pick c a b => match e c with
    | .bool true => .val (e a)
    | .bool false => .val (e b)
    | _ => .fail
  | .alloc t => match zeroC P t with
    | some cs => .new (.row cs t 1 false true) fun p => .ptr p 0
    | none => .fail
  | .box t x => match cellsA (e x) with
    | some cs => .new (.row cs t 1 false true) fun p => .ptr p 0
    | none => .fail
  | .build t ps => .ofOption (buildA P t (ps.toList.map fun p => (p.1, e p.2)))
  | .buildSlice t n ps => litA P t n (ps.toList.map fun p => (p.1, e p.2))
  | .load t x => loadA P t (e x)
  | .store t x y => storeA P t (e x) (e y)
  | .nilCheck x => match e x with
    | .ptr b o => .val (.ptr b o)
    | .fn f a b => .val (.fn f a b)
    | _ => .fail
  | .binOp op t x y _ => .ofOption (binA P op t (match isLit x with | true => true | false => isLit y) (e x) (e y))
  | .unOp op _ x => .ofOption (unA op (e x))
  | .convert s d x => convA P s d (e x)
  | .makeInterface t x => match P.underlying t with
    | some (.interface _) => .fail
    | some _ => .val (.ifc t (e x))
    | none => .fail
  | .makeFunc fn xs ys => match fn with
    | .func f => .val (.fn f (xs.toList.map e) (ys.toList.map e))
    | _ => .fail
  | .makeMap _ r => match r with
    | none => .new (.map [] 0) fun p => .mp p
    | some _ => .fail
  | .makeSlice t l c => makeSliceA P t (e l) (e c)
  | .slice t x lo hi mx => .ofOption (sliceA P t (e x) (lo.map e) (hi.map e) (mx.map e))
  | .fieldAddr s x f => .ofOption (fieldAddrA P s (e x) f)
  | .field s x f => .ofOption (fieldA P s (e x) f)
  | .indexAddr t x i => .ofOption (indexAddrA P t (e x) (e i))
  | .index t x i => .ofOption (indexA P t (e x) (e i))
  | .lookup t x i ok => lookupA P t (e x) (e i) ok
  | .mapUpdate t m k x => mapPutA P t (e m) (e k) (e x)
  | .insert t m k x => mapPutA P t (e m) (e k) (e x)
  | .typeAssert x _ t ok => .ofOption (typeAssertA P (e x) t ok)
  | .extract x i => match e x with
    | .tup vs => .ofOption (vs[i]?)
    | _ => .fail
  | .call c => match c.callee with
    | .builtin b => builtinA P b c.argTypes (c.args.toList.map e)
    | _ => .fail
  | .range t x => rangeA P t (e x)
  | .next x b => match b with
    | true => nextA (e x)
    | false => .fail
  | _ => .fail

end --all
end Go.Ev

namespace Go.Ev

section
variable {P : Program} {ρ : Rho}

/-! ### Small facts -/

theorem bytesOf_length (b : ByteArray) : (bytesOf b).length = b.size := by
  unfold bytesOf
  rw [List.length_map, Array.length_toList]
  rfl

theorem bytesOf_inj {a b : ByteArray} (h : bytesOf a = bytesOf b) : a = b := by
  unfold bytesOf at h
  have key : ∀ (x y : List UInt8), x.map UInt8.toNat = y.map UInt8.toNat → x = y := by
    intro x
    induction x with
    | nil => intro y h; cases y with | nil => rfl | cons => simp at h
    | cons c x ih =>
      intro y h
      cases y with
      | nil => simp at h
      | cons d y =>
        simp only [List.map_cons, List.cons.injEq] at h
        rw [ih y h.2, UInt8.toNat_inj.1 h.1]
  have := key _ _ h
  cases a; cases b; simp only [ByteArray.mk.injEq]; exact Array.toList_inj.1 this

theorem eqI_iff (a b : Int) : eqI a b = (a == b) := by
  cases a <;> cases b <;> simp only [eqI]
  · rename_i m n; by_cases h : m = n
    · subst h; simp
    · rw [show Nat.beq m n = false from by rw [← Bool.not_eq_true]; exact fun e => h (Nat.eq_of_beq_eq_true e)]
      symm; simp; omega
  · symm; simp
  · symm; simp
  · rename_i m n; by_cases h : m = n
    · subst h; simp
    · rw [show Nat.beq m n = false from by rw [← Bool.not_eq_true]; exact fun e => h (Nat.eq_of_beq_eq_true e)]
      symm; simp; omega

theorem blt_iff (m n : Nat) : Nat.blt m n = decide (m < n) := by
  by_cases h : m < n
  · simp only [h, decide_true]; exact Nat.ble_eq_true_of_le h
  · simp only [h, decide_false]; rw [← Bool.not_eq_true]; exact fun e => h (Nat.le_of_ble_eq_true e)
theorem ble_iff (m n : Nat) : Nat.ble m n = decide (m ≤ n) := by
  by_cases h : m ≤ n
  · simp only [h, decide_true]; exact Nat.ble_eq_true_of_le h
  · simp only [h, decide_false]; rw [← Bool.not_eq_true]; exact fun e => h (Nat.le_of_ble_eq_true e)
theorem beq_iff (m n : Nat) : Nat.beq m n = decide (m = n) := by
  by_cases h : m = n
  · subst h; simp
  · simp only [h, decide_false]; rw [← Bool.not_eq_true]; exact fun e => h (Nat.eq_of_beq_eq_true e)

theorem ltI_iff (a b : Int) : ltI a b = decide (a < b) := by
  cases a <;> cases b <;> simp only [ltI, blt_iff]
  · simp
  · rename_i m n; symm; simp only [decide_eq_false_iff_not, Int.ofNat_eq_natCast]; omega
  · rename_i m n; symm; simp only [decide_eq_true_eq, Int.ofNat_eq_natCast]; omega
  · rename_i m n; by_cases h : n < m
    · simp only [h, decide_true]; symm; simp only [decide_eq_true_eq]; omega
    · simp only [h, decide_false]; symm; simp only [decide_eq_false_iff_not]; omega
theorem leI_iff (a b : Int) : leI a b = decide (a ≤ b) := by
  unfold leI
  rw [ltI_iff]
  by_cases h : b < a
  · simp only [h, decide_true]; symm; simp only [decide_eq_false_iff_not]; omega
  · simp only [h, decide_false]; symm; simp only [decide_eq_true_eq]; omega

theorem bnot_eq (b : Bool) : bnot b = !b := by cases b <;> rfl

theorem wrapA_eq (k : IntKind) (n : Int) : wrapA k n = k.wrap n := by
  cases n with
  | negSucc m => rfl
  | ofNat m =>
    simp only [wrapA, ble_iff]
    by_cases h : m ≤ maxNat k
    · simp only [h, decide_true]
      unfold IntKind.wrap
      cases k <;> simp only [maxNat] at h <;> simp [IntKind.bits, IntKind.signed] <;> omega
    · simp only [h, decide_false]

theorem eqK_iff (j k : IntKind) : eqK j k = true ↔ j = k := by cases j <;> cases k <;> simp [eqK]

theorem eqL_iff (x y : List Nat) : eqL x y = true ↔ x = y := by
  induction x generalizing y with
  | nil => cases y <;> simp [eqL]
  | cons a x ih =>
    cases y with
    | nil => simp [eqL]
    | cons b y =>
      simp only [eqL, beq_iff]
      by_cases h : a = b <;> simp [h, ih]

theorem ltL_bytes (x y : List UInt8) : ltL (x.map UInt8.toNat) (y.map UInt8.toNat) = Op.bytesLess x y := by
  induction x generalizing y with
  | nil => cases y <;> rfl
  | cons a x ih =>
    cases y with
    | nil => rfl
    | cons b y =>
      simp only [List.map_cons, ltL, Op.bytesLess, blt_iff, beq_iff]
      by_cases h : a.toNat < b.toNat
      · have h' : a < b := UInt8.lt_iff_toNat_lt.2 h
        simp [h, h']
      · have h' : ¬ a < b := fun e => h (UInt8.lt_iff_toNat_lt.1 e)
        by_cases h2 : a.toNat = b.toNat
        · have h2' : a = b := UInt8.toNat_inj.1 h2
          subst h2'
          simp [ih]
        · have h2' : ¬ a = b := fun e => h2 (by rw [e])
          simp [h, h', h2, h2']

/-! ### Constants and operands -/

theorem VRs.map_of {f : Value → AV} (h : ∀ v, VR ρ (f v) v) (vs : List Value) : VRs ρ (vs.map f) vs := by
  refine ⟨by simp, fun i x v hx hv => ?_⟩
  simp only [List.getElem?_map, hv, Option.map_some, Option.some.injEq] at hx
  subst hx; exact h v

theorem ofConstF_ok (n : Nat) : ∀ v : Value, VR ρ (ofConstF n v) v := by
  induction n with
  | zero => intro v; exact .und v
  | succ n ih =>
    intro v
    unfold ofConstF
    split
    · exact .bool _
    · exact .int _ _
    · exact .flt _
    · exact .str rfl
    · exact .nilp
    · exact .nils
    · exact .nilm
    · exact .nilf
    · rename_i f xs ys
      split
      · rename_i h1 h2
        have e1 : xs = #[] := by simpa using h1
        have e2 : ys = #[] := by simpa using h2
        subst e1; subst e2
        exact .fn rfl (fun i x v h => by simp at h) rfl (fun i x v h => by simp at h)
      · exact .und _
    · exact .nili
    · exact .ifc (ih _)
    · rename_i cs
      have := VRs.to_agg (VRs.map_of ih cs.toList)
      simpa using this
    · rename_i cs
      have := VRs.to_tup (VRs.map_of ih cs.toList)
      simpa using this
    · exact .und _

theorem ofConst_ok (v : Value) : VR ρ (ofConst v) v := ofConstF_ok 3 v

/-- The first nG blocks of the abstract heap are the program's variables. -/
def Glob (nG : Nat) (ρ : Rho) : Prop := ∀ g, g < nG → ∃ e, ρ (Pos.ofSucc g) = some ⟨g, 0, e⟩
theorem Glob.mono {nG : Nat} {ρ ρ' : Rho} (h : Glob nG ρ) (hr : ρ.le ρ') : Glob nG ρ' := fun g hg => let ⟨e, he⟩ := h g hg; ⟨e, hr _ _ he⟩

theorem evA_ok {nG : Nat} {tm : Tm} {a : Act} (hg : Glob nG ρ) (ht : TR ρ tm a.tmps) (x : Operand) : VR ρ (evA nG tm x) (a.eval x) := by
  cases x with
  | tmp t =>
    simp only [evA, Act.eval, blt_iff]
    by_cases h : t < tm.N
    · simp only [h, decide_true]
      have hs := ht.size
      have hlt : t < a.tmps.size := by rw [hs]; exact h
      have : a.tmps[t]? = some (a.tmps.getD t undef) := by rw [Array.getElem?_eq_getElem hlt]; simp [Array.getD, hlt]
      exact ht.at_ t _ this
    · simp only [h, decide_false]; exact .und _
  | const v => exact ofConst_ok v
  | global g =>
    simp only [evA, Act.eval, blt_iff]
    by_cases h : g < nG
    · simp only [h, decide_true]
      obtain ⟨e, he⟩ := hg g h
      exact VR.ptr (o := 0) he
    · simp only [h, decide_false]; exact .und _
  | func f => exact .fn rfl (fun i x v h => by simp at h) rfl (fun i x v h => by simp at h)

theorem cellsA_ok {x : AV} {cs : List AV} {v : Value} (h : cellsA x = some cs) (r : VR ρ x v) : VRs ρ cs v.cells.toList := by
  cases x with
  | und => cases h
  | tup vs => cases h
  | agg xs =>
    cases h
    obtain ⟨vs, rfl, hh⟩ := VRs.of_agg r
    exact hh
  | val u =>
    cases r
    simp only [cellsA] at h
    split at h
    · rename_i hc
      cases h
      cases v <;> first | (cases hc; done) | exact .cons (.val _) (.nil _)
    · cases h
  | _ => cases h; cases r <;> exact .cons (by first | assumption | (constructor <;> assumption) | constructor) (.nil _)

theorem zeroA_ok {t : TypeId} {x : AV} (h : zeroA P t = some x) : ∃ i z, P.info? t = some i ∧ i.zero = some z ∧ VR ρ x z := by
  unfold zeroA at h
  split at h
  · rename_i i hi
    split at h
    · rename_i z hz; cases h; exact ⟨i, z, hi, hz, ofConst_ok z⟩
    · cases h
  · cases h

theorem zeroC_ok {t : TypeId} {cs : List AV} (h : zeroC P t = some cs) : ∃ i z, P.info? t = some i ∧ i.zero = some z ∧ VRs ρ cs z.cells.toList := by
  unfold zeroC at h
  split at h
  · rename_i x hx
    obtain ⟨i, z, hi, hz, hr⟩ := zeroA_ok (ρ := ρ) hx
    exact ⟨i, z, hi, hz, cellsA_ok h hr⟩
  · cases h

theorem run_zeroValue {t : TypeId} {i : TypeInfo} {z : Value} (hi : P.info? t = some i) (hz : i.zero = some z) (w : World) : (zeroValue t).run P w = .ok z w := by
  simp [zeroValue, Sem.run_bind, run_typeInfo w hi, Result.andThen, hz, Sem.run_pure]

theorem sizeT_ok {t : TypeId} {n : Nat} (h : sizeT P t = some n) : (∃ i, P.info? t = some i ∧ i.size = n) ∧ ∀ w, (Go.sizeOf t).run P w = .ok n w := by
  unfold sizeT at h
  split at h
  · rename_i i hi
    cases h
    refine ⟨⟨i, hi, rfl⟩, fun w => ?_⟩
    simp [Go.sizeOf, run_typeInfo w hi, Result.andThen]
  · cases h

theorem aggT_ok {t : TypeId} {b : Bool} (h : aggT P t = some b) (w : World) : (isAgg t).run P w = .ok b w := by
  unfold aggT at h
  unfold isAgg
  split at h <;> first | cases h | skip
  · rename_i fs hu; simp [Sem.run_bind, run_underlying hu, Result.andThen, Sem.run_pure]
  · rename_i n e hu; simp [Sem.run_bind, run_underlying hu, Result.andThen, Sem.run_pure]
  · rename_i d hd1 hd2 hu
    simp only [Sem.run_bind, run_underlying hu, Result.andThen]
    cases d <;> first | (simp only [Sem.run_pure]; done) | (exact absurd rfl (hd1 _)) | (exact absurd rfl (hd2 _ _))

end
end Go.Ev

namespace Go.Ev

section
variable {P : Program} {ρ : Rho} {base : Bd}

theorem frozen_of {w : World} {b : Nat} {arr : Array Value} {t : TypeId} {lo hi : Nat} (h : w.heap[b]? = some (.cells arr t (lo, hi))) (k : Nat) (hf : ¬ (lo ≤ k ∧ k < hi)) : w.frozen? ⟨b, k, none⟩ = false := by
  simp only [World.frozen?, h]
  cases hd : (decide (lo ≤ k) && decide (k < hi)) with
  | false => rfl
  | true => simp at hd; exact absurd hd hf

theorem cell_of {w : World} {b : Nat} {arr : Array Value} {t : TypeId} {z : Nat × Nat} (h : w.heap[b]? = some (.cells arr t z)) (k : Nat) : w.cell? ⟨b, k, none⟩ = arr[k]? := by
  simp [World.cell?, h]

theorem setCell_row {w : World} {b k : Nat} {arr : Array Value} {t : TypeId} {z : Nat × Nat} (h : w.heap[b]? = some (.cells arr t z)) (v : Value) :
    SameBut w (w.setCell ⟨b, k, none⟩ v) b ∧ (w.setCell ⟨b, k, none⟩ v).heap[b]? = some (.cells (arr.setIfInBounds k v) t z) := by
  have hlt : b < w.heap.size := (Array.getElem?_eq_some_iff.1 h).1
  refine ⟨⟨rfl, rfl, rfl, by simp [World.setCell], fun j hj => ?_⟩, ?_⟩
  · simp only [World.setCell, Array.getElem?_modify]
    rw [if_neg (by omega)]
  · simp only [World.setCell, Array.getElem?_modify, if_true]
    rw [h]; simp

theorem run_store1 {w : World} {b k : Nat} {arr : Array Value} {t : TypeId} {lo hi : Nat} (h : w.heap[b]? = some (.cells arr t (lo, hi))) (hk : k < arr.size) (hf : ¬ (lo ≤ k ∧ k < hi)) {v : Value} (hv : v.oneCell' = true) :
    (store ⟨b, k, none⟩ v).run P w = .ok () (w.setCell ⟨b, k, none⟩ v) := by
  rw [run_store P w _ v _ hv, cell_of h, Array.getElem?_eq_getElem hk]
  simp [frozen_of h k hf]

theorem addr_add (b o i : Nat) : (⟨b, o, none⟩ : Addr).add i = ⟨b, o + i, none⟩ := by
  unfold Addr.add
  split
  · rename_i h; subst h; rfl
  · rfl

theorem run_storeCells_row {b o : Nat} {t : TypeId} {lo hi : Nat} : ∀ (vs : List Value) (i : Nat) (w : World) (arr : Array Value), w.heap[b]? = some (.cells arr t (lo, hi)) →
    o + i + vs.length ≤ arr.size → (∀ j, j < arr.size → ¬ (lo ≤ j ∧ j < hi)) → (∀ v, v ∈ vs → v.oneCell' = true) →
    ∃ w' arr', (storeCells ⟨b, o, none⟩ vs i).run P w = .ok () w' ∧ SameBut w w' b ∧ w'.heap[b]? = some (.cells arr' t (lo, hi)) ∧ arr'.size = arr.size ∧
      ∀ k, arr'[k]? = if o + i ≤ k ∧ k < o + i + vs.length then vs[k - (o + i)]? else arr[k]? := by
  intro vs
  induction vs with
  | nil =>
    intro i w arr h _ _ _
    exact ⟨w, arr, rfl, .refl _ _, h, rfl, fun k => by rw [if_neg (by simp only [List.length_nil]; omega)]⟩
  | cons v vs ih =>
    intro i w arr h hs hf hv
    simp only [List.length_cons] at hs
    have h1 := run_store1 (P := P) h (k := o + i) (by omega) (hf _ (by omega)) (hv v (List.mem_cons_self ..))
    obtain ⟨hsame, hrow⟩ := setCell_row h (k := o + i) v
    obtain ⟨w', arr', hrun, hs', hr', hsz, hget⟩ := ih (i + 1) _ _ hrow (by simp; omega) (by simpa using hf) (fun u hu => hv u (List.mem_cons_of_mem _ hu))
    refine ⟨w', arr', ?_, hsame.trans hs', hr', by simpa using hsz, fun k => ?_⟩
    · simp only [storeCells, Sem.run_bind, addr_add, h1, Result.andThen, hrun]
    · rw [hget k]
      simp only [List.length_cons]
      by_cases hk : k = o + i
      · subst hk
        rw [if_neg (by omega), if_pos (by omega)]
        rw [Array.getElem?_setIfInBounds_self_of_lt (by omega)]
        simp
      · by_cases hin : o + (i + 1) ≤ k ∧ k < o + (i + 1) + vs.length
        · rw [if_pos hin, if_pos (by omega), show k - (o + i) = (k - (o + (i + 1))) + 1 by omega]
          simp
        · rw [if_neg hin, if_neg (by omega), Array.getElem?_setIfInBounds_ne (by omega)]

theorem oneCell_of {x : AV} {v : Value} (h : okCell x = true) (r : VR ρ x v) : v.oneCell' = true := by
  cases r with
  | val v => cases v <;> first | rfl | cases h
  | _ => first | rfl | cases h

theorem allOk_mem {xs : List AV} (h : allOk xs = true) : ∀ x, x ∈ xs → okCell x = true := by
  induction xs with
  | nil => intro x hx; cases hx
  | cons y ys ih =>
    simp only [allOk] at h
    split at h
    · rename_i hy
      intro x hx
      cases hx with
      | head => exact hy
      | tail _ hx => exact ih h x hx
    · cases h

theorem oneCells_of {xs : List AV} {vs : List Value} (h : allOk xs = true) (r : VRs ρ xs vs) : ∀ v, v ∈ vs → v.oneCell' = true := by
  intro v hv
  obtain ⟨i, hi⟩ := List.getElem?_of_mem hv
  have hlt : i < vs.length := (List.getElem?_eq_some_iff.1 hi).1
  have hlt' : i < xs.length := by rw [r.1]; exact hlt
  have hx : xs[i]? = some xs[i] := by simp [hlt']
  exact oneCell_of (allOk_mem h _ (List.getElem_mem hlt')) (r.2 i _ v hx hi)

/-- The cells of a row that are asked for. -/
theorem row_loads {w : World} {l : Loc} {cells : List AV} {t : TypeId} {sz : Nat} {opn wr : Bool} (h : BlkRel ρ base w l (.row cells t sz opn wr)) {o n : Nat} (ho : o + n ≤ cells.length) :
    ∃ vs : List Value, (loadCells ⟨l.blk, l.off + o, none⟩ n).run P w = .ok vs.toArray w ∧ VRs ρ ((cells.drop o).take n) vs := by
  obtain ⟨arr, tt, lo, hi, h1, h2, h3, h4, h5, h6⟩ := h
  let vs := (arr.toList.drop (l.off + o)).take n
  have hlen : vs.length = n := by simp [vs]; omega
  have hg : ∀ j v, vs[j]? = some v → j < n ∧ arr[l.off + o + j]? = some v := by
    intro j v hj
    have hjn : j < n := by have := (List.getElem?_eq_some_iff.1 hj).1; omega
    refine ⟨hjn, ?_⟩
    have hj' : ((arr.toList.drop (l.off + o)).take n)[j]? = some v := hj
    rw [List.getElem?_take, if_pos hjn, List.getElem?_drop] at hj'
    simpa using hj'
  refine ⟨vs, ?_, ?_, ?_⟩
  · have := run_loadCells_list (P := P) w ⟨l.blk, l.off + o, none⟩ vs (fun j v hj => by rw [addr_add, cell_of h1]; exact (hg j v hj).2)
    rwa [hlen] at this
  · rw [hlen]; simp; omega
  · intro i x v hx hv
    obtain ⟨hin, ha⟩ := hg i v hv
    rw [List.getElem?_take, if_pos hin, List.getElem?_drop] at hx
    refine h6 (o + i) x v hx ?_
    rw [← ha]; congr 1; omega

theorem row_load {w : World} {l : Loc} {cells : List AV} {t : TypeId} {sz : Nat} {opn wr : Bool} (h : BlkRel ρ base w l (.row cells t sz opn wr)) {o : Nat} {x : AV} (ho : cells[o]? = some x) :
    ∃ v, w.cell? ⟨l.blk, l.off + o, none⟩ = some v ∧ VR ρ x v := by
  obtain ⟨arr, tt, lo, hi, h1, h2, h3, h4, h5, h6⟩ := h
  have hlt : o < cells.length := (List.getElem?_eq_some_iff.1 ho).1
  have hlt' : l.off + o < arr.size := by omega
  exact ⟨arr[l.off + o], by rw [cell_of h1, Array.getElem?_eq_getElem hlt'], h6 o x _ ho (Array.getElem?_eq_getElem hlt')⟩

theorem splice_get (cs : List AV) (o : Nat) (vs : List AV) (h : o + vs.length ≤ cs.length) (k : Nat) :
    (splice cs o vs)[k]? = if o ≤ k ∧ k < o + vs.length then vs[k - o]? else cs[k]? := by
  unfold splice
  have hl : (cs.take o).length = o := by simp; omega
  by_cases h1 : k < o
  · rw [List.append_assoc, List.getElem?_append_left (by rw [hl]; exact h1), if_neg (by omega), List.getElem?_take, if_pos h1]
  · by_cases h2 : k < o + vs.length
    · rw [List.append_assoc, List.getElem?_append_right (by rw [hl]; omega), List.getElem?_append_left (by rw [hl]; omega), hl, if_pos (by omega)]
    · rw [if_neg (by omega), List.getElem?_append_right (by simp [hl]; omega), List.getElem?_drop]
      congr 1
      simp only [List.length_append, hl]; omega

theorem splice_length (cs : List AV) (o : Nat) (vs : List AV) (h : o + vs.length ≤ cs.length) : (splice cs o vs).length = cs.length := by
  simp [splice]; omega

/-- Cells are stored into a row. -/
theorem row_stores {w : World} {l : Loc} {cells : List AV} {t : TypeId} {sz : Nat} {opn : Bool} (h : BlkRel ρ base w l (.row cells t sz opn true)) {o : Nat} {xs : List AV} {vs : List Value}
    (ho : o + xs.length ≤ cells.length) (hr : VRs ρ xs vs) (hok : allOk xs = true) :
    ∃ w', (storeCells ⟨l.blk, l.off + o, none⟩ vs).run P w = .ok () w' ∧ SameBut w w' l.blk ∧ BlkRel ρ base w' l (.row (splice cells o xs) t sz opn true) := by
  obtain ⟨arr, tt, lo, hi, h1, h2, h3, h4, h5, h6⟩ := h
  have hl := hr.1
  obtain ⟨w', arr', hrun, hs, hrow, hsz, hget⟩ := run_storeCells_row (P := P) (b := l.blk) (o := l.off + o) vs 0 w arr h1 (by omega) (h5 rfl) (oneCells_of hok hr)
  refine ⟨w', hrun, hs, arr', tt, lo, hi, hrow, by rw [splice_length _ _ _ ho]; omega, h3, h4, by rw [hsz]; exact h5, fun i x v hx hv => ?_⟩
  rw [hget] at hv
  rw [splice_get _ _ _ ho] at hx
  by_cases hin : o ≤ i ∧ i < o + xs.length
  · rw [if_pos hin] at hx
    rw [if_pos (by omega), show l.off + i - (l.off + o + 0) = i - o by omega] at hv
    exact hr.2 _ x v hx hv
  · rw [if_neg hin] at hx
    rw [if_neg (by omega)] at hv
    exact h6 i x v hx hv

/-- What a Sem value comes to beside the abstract one. -/
def OkV (P : Program) (base : Bd) (ρ : Rho) (w : World) (s : Sem Value) (v : AV) (σ' : St) : Prop :=
  ∃ v' w' ρ', s.run P w = .ok v' w' ∧ VR ρ' v v' ∧ ρ.le ρ' ∧ Rel base ρ' σ' w' ∧ Bel base w w'
def OkU (P : Program) (base : Bd) (ρ : Rho) (w : World) (s : Sem Unit) (σ' : St) : Prop :=
  ∃ w' ρ', s.run P w = .ok () w' ∧ ρ.le ρ' ∧ Rel base ρ' σ' w' ∧ Bel base w w'

theorem OkV.pure {σ : St} {w : World} {s : Sem Value} {x : AV} {v : Value} (hR : Rel base ρ σ w) (hs : s.run P w = .ok v w) (h : VR ρ x v) : OkV P base ρ w s x σ :=
  ⟨v, w, ρ, hs, h, Rho.le_refl _, hR, Bel.refl _ _⟩

theorem VR.ptr0 {ρ : Rho} {b : Pos} {l : Loc} (h : ρ b = some l) (h0 : l.off = 0) : VR ρ (.ptr b 0) (.pointer (some ⟨l.blk, 0, none⟩)) := by
  have := VR.ptr (o := 0) h
  rwa [h0] at this

/-- A new row of cells. -/
theorem rel_newRow {σ : St} {w : World} (hR : Rel base ρ σ w) {nid : Pos} (hn : σ.hp.get nid = none) {xs : List AV} {vs : List Value} (hr : VRs ρ xs vs) (t : TypeId) (sz : Nat) (opn : Bool) (extra : Nat) (z : Nat × Nat) (rest : List Value)
    (he : opn = false → extra = 0) (hrest : extra * sz ≤ rest.length) (hz : ∀ j, j < vs.length + rest.length → ¬ (z.1 ≤ j ∧ j < z.2)) :
    Rel base (ρ.upd nid ⟨w.heap.size, 0, extra⟩) { σ with hp := σ.hp.set (.row xs t sz opn true) nid } (w.alloc (.cells (vs ++ rest).toArray t z)) := by
  have hle := Rho.le_upd (l := ⟨w.heap.size, 0, extra⟩) (hR.unset hn)
  refine hR.new hn rfl ⟨(vs ++ rest).toArray, t, z.1, z.2, ?_, ?_, he, fun _ => hR.mine, ?_, ?_⟩
  · exact World.alloc_heap_new w _
  · simp [hr.1]; exact hrest
  · intro _ j hj; exact hz j (by simpa using hj)
  · intro i x v hx hv
    have hi : i < vs.length := by rw [← hr.1]; exact (List.getElem?_eq_some_iff.1 hx).1
    simp only [Nat.zero_add, List.getElem?_toArray] at hv
    rw [List.getElem?_append_left hi] at hv
    exact (hr.2 i x v hx hv).mono hle

end
end Go.Ev

namespace Go.Ev

section
variable {P : Program} {ρ : Rho} {base : Bd} {σ σ' : St} {w : World} {nid : Pos} {u : Bool} {v : AV}

theorem run_val {x : AV} (h : (Deed.val x).run nid σ = some (v, σ', u)) : v = x ∧ σ' = σ := by
  simp only [Deed.run, Option.some.injEq, Prod.mk.injEq] at h
  exact ⟨h.1.symm, h.2.1.symm⟩

theorem run_ofOption {x : Option AV} (h : (Deed.ofOption x).run nid σ = some (v, σ', u)) : x = some v ∧ σ' = σ := by
  cases x with
  | none => cases h
  | some x => obtain ⟨rfl, rfl⟩ := run_val h; exact ⟨rfl, rfl⟩

theorem run_fail (h : Deed.fail.run nid σ = some (v, σ', u)) : False := by cases h

theorem run_new {x : ABlk} {k : Pos → AV} (h : (Deed.new x k).run nid σ = some (v, σ', u)) : v = k nid ∧ σ' = { σ with hp := σ.hp.set x nid } ∧ σ.hp.get nid = none := by
  simp only [Deed.new, Deed.run, getAll, setAll] at h
  split at h
  · cases h
  · rename_i hn
    simp only [Option.some.injEq, Prod.mk.injEq] at h
    exact ⟨h.1.symm, h.2.1.symm, hn⟩

theorem run_read {b : Pos} {k : ABlk → Option AV} (h : (Deed.read b k).run nid σ = some (v, σ', u)) : ∃ y, σ.hp.get b = some y ∧ k y = some v ∧ σ' = σ := by
  simp only [Deed.read, Deed.run, getAll] at h
  cases hb : σ.hp.get b with
  | none => simp [hb] at h
  | some y =>
    simp only [hb] at h
    cases hk : k y with
    | none => simp [hk] at h
    | some x =>
      simp only [hk, setAll, Option.some.injEq, Prod.mk.injEq] at h
      exact ⟨y, rfl, by rw [hk, h.1], h.2.1.symm⟩

theorem run_write {b : Pos} {k : ABlk → Option (AV × ABlk)} (h : (Deed.write b k).run nid σ = some (v, σ', u)) :
    ∃ y y', σ.hp.get b = some y ∧ k y = some (v, y') ∧ σ' = { σ with hp := σ.hp.set y' b } := by
  simp only [Deed.write, Deed.run, getAll] at h
  cases hb : σ.hp.get b with
  | none => simp [hb] at h
  | some y =>
    simp only [hb] at h
    cases hk : k y with
    | none => simp [hk] at h
    | some x =>
      obtain ⟨x, y'⟩ := x
      simp only [hk, setAll, hb] at h
      cases hlo : Nat.ble σ.lo b.toNat with
      | false => simp [hlo] at h
      | true =>
        simp only [hlo, Option.some.injEq, Prod.mk.injEq] at h
        exact ⟨y, y', rfl, by rw [hk, h.1], h.2.1.symm⟩

/-! ### Loads -/

theorem loadA_ok {t : TypeId} {x : AV} {xv : Value} (hR : Rel base ρ σ w) (hx : VR ρ x xv) (h : (loadA P t x).run nid σ = some (v, σ', u)) : OkV P base ρ w (Instr.loadAt t xv) v σ' := by
  cases hx with
  | ptr hl =>
    rename_i b o l
    simp only [loadA] at h
    cases ha : aggT P t with
    | none => rw [ha] at h; exact (run_fail h).elim
    | some g =>
      have hag := aggT_ok ha w
      rw [ha] at h
      cases g with
      | false =>
        obtain ⟨y, hy, hk, rfl⟩ := run_read h
        split at hk
        · rename_i cells t' sz opn wr
          split at hk
          · rename_i z hz
            cases hk
            obtain ⟨c, hc, hr⟩ := row_load (hR.at_ hy hl) hz
            refine .pure hR (v := c) ?_ hr
            simp [Instr.loadAt, Instr.sureAddr, loadVar, Sem.run_bind, hag, Result.andThen, run_load, hc]
          · cases hk
        · cases hk
      | true =>
        simp only at h
        cases hs : sizeT P t with
        | none => rw [hs] at h; exact (run_fail h).elim
        | some n =>
          rw [hs] at h
          obtain ⟨y, hy, hk, rfl⟩ := run_read h
          split at hk
          · rename_i cells t' sz opn wr
            split at hk
            · rename_i hle
              cases hk
              obtain ⟨vs, hrun, hr⟩ := row_loads (P := P) (hR.at_ hy hl) (Nat.le_of_ble_eq_true hle)
              refine .pure hR (v := .agg vs.toArray) ?_ hr.to_agg
              simp [Instr.loadAt, Instr.sureAddr, loadVar, Sem.run_bind, hag, Result.andThen, (sizeT_ok hs).2, hrun]
            · cases hk
          · cases hk
  | _ => simp only [loadA] at h; exact (run_fail h).elim

/-! ### Stores -/

theorem storeA_ok {t : TypeId} {x y : AV} {xv yv : Value} (hR : Rel base ρ σ w) (hx : VR ρ x xv) (hy : VR ρ y yv) (h : (storeA P t x y).run nid σ = some (v, σ', u)) :
    v = .und ∧ OkU P base ρ w (Instr.storeAt t xv yv) σ' := by
  cases hx with
  | ptr hl =>
    rename_i b o l
    simp only [storeA] at h
    cases hc : cellsA y with
    | none => rw [hc] at h; exact (run_fail h).elim
    | some xs =>
      cases hs : sizeT P t with
      | none => rw [hc, hs] at h; exact (run_fail h).elim
      | some n =>
        rw [hc, hs] at h
        simp only at h
        cases h1 : Nat.beq xs.length n with
        | false => rw [h1] at h; exact (run_fail h).elim
        | true =>
          cases h2 : allOk xs with
          | false => rw [h1, h2] at h; exact (run_fail h).elim
          | true =>
            rw [h1, h2] at h
            obtain ⟨z, z', hz, hk, rfl⟩ := run_write h
            split at hk
            · rename_i z'' hst
              simp only [Option.some.injEq, Prod.mk.injEq] at hk
              obtain ⟨rfl, rfl⟩ := hk
              refine ⟨rfl, ?_⟩
              unfold storeRow at hst
              split at hst
              · rename_i cells t' sz opn
                split at hst
                · rename_i hle
                  cases hst
                  have hr := cellsA_ok hc hy
                  obtain ⟨w', hrun, hs', hb⟩ := row_stores (P := P) (hR.at_ hz hl) (Nat.le_of_ble_eq_true hle) hr h2
                  have hbl : base.mod l.blk := by
                    obtain ⟨arr, tt, lo, hi, _, _, _, h4, _⟩ := hR.at_ hz hl
                    exact h4 rfl
                  refine ⟨w', ρ, ?_, Rho.le_refl _, hR.upd hz hl rfl hs' hbl hb, hs'.below hbl⟩
                  have hlen : yv.cells.size = n := by
                    have := hr.1; rw [Nat.eq_of_beq_eq_true h1] at this; simpa using this.symm
                  simp [Instr.storeAt, Instr.sureAddr, storeVar, Sem.run_bind, (sizeT_ok hs).2, Result.andThen, hlen, hrun]
                · cases hst
              · cases hst
            · cases hk
  | _ => simp only [storeA] at h; exact (run_fail h).elim

/-! ### New variables -/

theorem newVar_ok {t : TypeId} {xs : List AV} {z : Value} (hR : Rel base ρ σ w) (hn : σ.hp.get nid = none) (hr : VRs ρ xs z.cells.toList) :
    ∃ a ρ', (newVar t z).run P w = .ok a (w.alloc (.cells z.cells t)) ∧ VR ρ' (.ptr nid 0) (.pointer (some a)) ∧ ρ.le ρ' ∧
      Rel base ρ' { σ with hp := σ.hp.set (.row xs t 1 false true) nid } (w.alloc (.cells z.cells t)) ∧ Bel base w (w.alloc (.cells z.cells t)) := by
  have h1 := rel_newRow hR hn hr t 1 false 0 (0, 0) [] (fun _ => rfl) (by simp) (by intro j _ ⟨_, h⟩; exact absurd h (by omega))
  simp only [List.append_nil] at h1
  have h1 : Rel base (ρ.upd nid ⟨w.heap.size, 0, 0⟩) { σ with hp := σ.hp.set (.row xs t 1 false true) nid } (w.alloc (.cells z.cells t)) := h1
  refine ⟨⟨w.heap.size, 0, none⟩, _, ?_, VR.ptr0 (l := ⟨w.heap.size, 0, 0⟩) Rho.upd_same rfl, Rho.le_upd (hR.unset hn), h1, (Bel.refl _ _).alloc hR.le _⟩
  simp [newVar, newRow, Sem.run_bind, run_newObj_alloc, Result.andThen, Sem.run_pure]

theorem alloc_ok {t : TypeId} {cs : List AV} (hR : Rel base ρ σ w) (hz : zeroC P t = some cs) (h : (Deed.new (.row cs t 1 false true) fun p => .ptr p 0).run nid σ = some (v, σ', u)) :
    OkV P base ρ w (Instr.alloc t true (.tuple #[])) v σ' := by
  obtain ⟨rfl, rfl, hn⟩ := run_new h
  obtain ⟨i, z, hi, hz, hr⟩ := zeroC_ok (ρ := ρ) hz
  obtain ⟨a, ρ', hrun, hv, hle, hR', hb⟩ := newVar_ok (P := P) (t := t) hR hn hr
  exact ⟨_, _, ρ', by simp [Instr.alloc, Sem.run_bind, run_zeroValue hi hz, Result.andThen, hrun], hv, hle, hR', hb⟩

theorem box_ok {t : TypeId} {x : AV} {xv : Value} {cs : List AV} (hR : Rel base ρ σ w) (hx : VR ρ x xv) (hc : cellsA x = some cs)
    (h : (Deed.new (.row cs t 1 false true) fun p => .ptr p 0).run nid σ = some (v, σ', u)) : OkV P base ρ w (Instr.box t xv) v σ' := by
  obtain ⟨rfl, rfl, hn⟩ := run_new h
  obtain ⟨a, ρ', hrun, hv, hle, hR', hb⟩ := newVar_ok (P := P) (t := t) hR hn (cellsA_ok hc hx)
  exact ⟨_, _, ρ', by simp [Instr.box, Sem.run_bind, Result.andThen, hrun], hv, hle, hR', hb⟩

/-! ### Parts -/

theorem partA_ok {t : TypeId} {cs : List AV} {vs : Array Value} {off : Nat} (hr : VRs ρ cs vs.toList) (h : partA P t cs off = some v) (w : World) :
    ∃ x, (part t vs off).run P w = .ok x w ∧ VR ρ v x := by
  unfold partA at h
  split at h
  · rename_i ha
    split at h
    · rename_i n hs
      cases h
      refine ⟨.agg (vs.extract off (off + n)), by simp [part, Sem.run_bind, aggT_ok ha w, Result.andThen, (sizeT_ok hs).2], ?_⟩
      have := ((hr.drop off).take n).to_agg
      have e : ((vs.toList.drop off).take n).toArray = vs.extract off (off + n) := by
        apply Array.ext'
        simp [List.extract]
      rwa [e] at this
    · cases h
  · rename_i ha
    obtain ⟨x, hx, hv⟩ := hr.get h
    have hx' : vs[off]? = some x := by simpa using hx
    exact ⟨x, by simp [part, Sem.run_bind, aggT_ok ha w, Result.andThen, hx'], hv⟩
  · cases h

theorem fieldsOf_ok {s : TypeId} {fs : Array Field} (h : fieldsOf P s = some fs) : P.underlying s = some (.struct fs) := by
  unfold fieldsOf at h
  split at h
  · rename_i hu; cases h; exact hu
  · cases h

theorem fieldAddrA_ok {s : TypeId} {x : AV} {xv : Value} {f : Nat} (hR : Rel base ρ σ w) (hx : VR ρ x xv) (h : fieldAddrA P s x f = some v) : OkV P base ρ w (Instr.fieldAt s xv f) v σ := by
  cases hx with
  | ptr hl =>
    rename_i b o l
    simp only [fieldAddrA] at h
    split at h
    · rename_i fs hf
      split at h
      · rename_i fl hfl
        split at h
        · rename_i n hs
          cases h
          refine .pure hR (v := .pointer (some ⟨l.blk, l.off + (o + fl.offset), none⟩)) ?_ (.ptr hl)
          simp [Instr.fieldAt, Sem.run_bind, run_underlying (fieldsOf_ok hf), Result.andThen, hfl, Instr.sureAddr, fieldPlace, (sizeT_ok hs).2, addr_add, Nat.add_assoc]
        · cases h
      · cases h
    · cases h
  | _ => simp only [fieldAddrA] at h; cases h

theorem fieldA_ok {s : TypeId} {x : AV} {xv : Value} {f : Nat} (hR : Rel base ρ σ w) (hx : VR ρ x xv) (h : fieldA P s x f = some v) : OkV P base ρ w (Instr.field s xv f) v σ := by
  cases x with
  | agg cs =>
    simp only [fieldA] at h
    split at h
    · rename_i fs hf
      split at h
      · rename_i fl hfl
        obtain ⟨vs, rfl, hr⟩ := VRs.of_agg hx
        obtain ⟨z, hrun, hz⟩ := partA_ok hr h w
        refine .pure hR (v := z) ?_ hz
        simp [Instr.field, Sem.run_bind, run_underlying (fieldsOf_ok hf), Result.andThen, hfl, asAgg, hrun]
      · cases h
    · cases h
  | _ => simp only [fieldA] at h; cases h

theorem indexAddrA_ok {t : TypeId} {x i : AV} {xv iv : Value} (hR : Rel base ρ σ w) (hx : VR ρ x xv) (hi : VR ρ i iv) (h : indexAddrA P t x i = some v) : OkV P base ρ w (Instr.indexAt t xv iv) v σ := by
  cases hi with
  | int k n =>
    cases n with
    | negSucc n => simp only [indexAddrA] at h; cases h
    | ofNat n =>
      simp only [indexAddrA] at h
      split at h
      · rename_i e b o len cap opn hu
        split at h
        · rename_i sz hs hlt
          cases h
          have hlt := Nat.le_of_ble_eq_true hlt
          cases hx with
          | sl hl =>
            rename_i l
            refine .pure hR (v := .pointer (some ⟨l.blk, l.off + (o + n * sz), none⟩)) ?_ (.ptr hl)
            have hn : n < len := hlt
            simp [Instr.indexAt, asIntOf, Sem.run_bind, run_underlying hu, Result.andThen, (sizeT_ok hs).2, addr_add, Nat.add_assoc, hn]
        · cases h
      · rename_i len e b o hu
        split at h
        · rename_i sz hs hlt
          cases h
          have hlt := Nat.le_of_ble_eq_true hlt
          cases hx with
          | ptr hl =>
            rename_i l
            refine .pure hR (v := .pointer (some ⟨l.blk, l.off + (o + n * sz), none⟩)) ?_ (.ptr hl)
            have hn : n < len := hlt
            simp [Instr.indexAt, asIntOf, Sem.run_bind, run_underlying hu, Result.andThen, (sizeT_ok hs).2, addr_add, Nat.add_assoc, hn, Instr.sureAddr]
        · cases h
      · cases h
  | _ => simp only [indexAddrA] at h; cases h

theorem indexA_ok {t : TypeId} {x i : AV} {xv iv : Value} (hR : Rel base ρ σ w) (hx : VR ρ x xv) (hi : VR ρ i iv) (h : indexA P t x i = some v) : OkV P base ρ w (Instr.index t xv iv) v σ := by
  cases hi with
  | int k n =>
    cases n with
    | negSucc n => simp only [indexA] at h; cases h
    | ofNat n =>
      simp only [indexA] at h
      split at h
      · rename_i len e cs hu
        split at h
        · rename_i sz hs hlt
          have hlt := Nat.le_of_ble_eq_true hlt
          obtain ⟨vs, rfl, hr⟩ := VRs.of_agg hx
          obtain ⟨z, hrun, hz⟩ := partA_ok hr h w
          refine .pure hR (v := z) ?_ hz
          have hn : n < len := hlt
          simp [Instr.index, asIntOf, Sem.run_bind, run_underlying hu, Result.andThen, (sizeT_ok hs).2, hn, hrun]
        · cases h
      · rename_i s hu
        split at h
        · rename_i c hc
          cases h
          cases hx with
          | str hs =>
            rename_i bs
            subst hs
            have hb : ∃ y : UInt8, bs[n]? = some y ∧ y.toNat = c := by
              have hlt : n < bs.size := by
                have := (List.getElem?_eq_some_iff.1 hc).1
                rwa [bytesOf_length] at this
              refine ⟨bs[n], by simp [hlt], ?_⟩
              unfold bytesOf at hc
              rw [List.getElem?_map] at hc
              have : bs.data.toList[n]? = some bs[n] := by
                rw [Array.getElem?_toList]
                exact Array.getElem?_eq_getElem hlt
              rw [this] at hc
              simpa using hc
            obtain ⟨y, hy, rfl⟩ := hb
            refine .pure hR (v := .int .u8 y.toNat) ?_ (.int _ _)
            simp [Instr.index, asIntOf, Sem.run_bind, run_underlying hu, Result.andThen, hy]
        · cases h
      · cases h
  | _ => simp only [indexA] at h; cases h

end
end Go.Ev

namespace Go.Ev

section
variable {P : Program} {ρ : Rho} {base : Bd} {σ σ' : St} {w : World} {nid : Pos} {u : Bool} {v : AV}

/-! ### Structs, arrays and slices written out -/

theorem foldl_set (off : Nat) : ∀ (l : List Value) (i : Nat) (arr : Array Value), off + i + l.length ≤ arr.size →
    ((l.zipIdx i).foldl (fun cs (x : Value × Nat) => cs.setIfInBounds (off + x.2) x.1) arr).size = arr.size ∧
    ∀ k, ((l.zipIdx i).foldl (fun cs (x : Value × Nat) => cs.setIfInBounds (off + x.2) x.1) arr)[k]? = if off + i ≤ k ∧ k < off + i + l.length then l[k - (off + i)]? else arr[k]? := by
  intro l
  induction l with
  | nil => intro i arr _; exact ⟨rfl, fun k => by rw [if_neg (by simp only [List.length_nil]; omega)]; rfl⟩
  | cons c l ih =>
    intro i arr h
    simp only [List.length_cons] at h
    obtain ⟨h1, h2⟩ := ih (i + 1) (arr.setIfInBounds (off + i) c) (by simp; omega)
    simp only [List.zipIdx_cons, List.foldl_cons]
    refine ⟨by rw [h1]; simp, fun k => ?_⟩
    rw [h2 k]
    simp only [List.length_cons]
    by_cases hk : k = off + i
    · subst hk
      rw [if_neg (by omega), if_pos (by omega), Array.getElem?_setIfInBounds_self_of_lt (by omega)]
      simp
    · by_cases hin : off + (i + 1) ≤ k ∧ k < off + (i + 1) + l.length
      · rw [if_pos hin, if_pos (by omega), show k - (off + i) = (k - (off + (i + 1))) + 1 by omega]
        simp
      · rw [if_neg hin, if_neg (by omega), Array.getElem?_setIfInBounds_ne (by omega)]

theorem VRs.splice {cs xs : List AV} {arr : Array Value} {vs : Array Value} {off : Nat} (h : VRs ρ cs arr.toList) (k : VRs ρ xs vs.toList) (ho : off + xs.length ≤ cs.length) :
    VRs ρ (splice cs off xs) (vs.zipIdx.foldl (fun cs (x : Value × Nat) => cs.setIfInBounds (off + x.2) x.1) arr).toList := by
  have hl := k.1
  have hc := h.1
  simp only [Array.length_toList] at hl hc
  have e : vs.zipIdx.foldl (fun cs (x : Value × Nat) => cs.setIfInBounds (off + x.2) x.1) arr = (vs.toList.zipIdx 0).foldl (fun cs (x : Value × Nat) => cs.setIfInBounds (off + x.2) x.1) arr := by
    rw [← Array.foldl_toList, Array.toList_zipIdx]
  rw [e]
  obtain ⟨h1, h2⟩ := foldl_set off vs.toList 0 arr (by simp; omega)
  refine ⟨by rw [splice_length _ _ _ ho]; simp only [Array.length_toList]; rw [h1]; exact hc, fun i x v hx hv => ?_⟩
  rw [Array.getElem?_toList, h2] at hv
  rw [splice_get _ _ _ ho] at hx
  simp only [Nat.add_zero, Array.length_toList] at hv
  by_cases hin : off ≤ i ∧ i < off + xs.length
  · rw [if_pos hin] at hx
    rw [if_pos (by omega)] at hv
    exact k.2 _ x v hx hv
  · rw [if_neg hin] at hx
    rw [if_neg (by omega)] at hv
    exact h.2 i x v hx (by simpa using hv)

/-- Parts beside parts. -/
def PRs (ρ : Rho) (ps : List (Nat × AV)) (qs : List (Nat × Value)) : Prop := ps.length = qs.length ∧ ∀ (i : Nat) (p : Nat × AV) (q : Nat × Value), ps[i]? = some p → qs[i]? = some q → p.1 = q.1 ∧ VR ρ p.2 q.2

theorem fillA_ok {place : Nat → Option (Nat × Nat)} : ∀ (ps : List (Nat × AV)) (qs : List (Nat × Value)) (cs : List AV) (arr : Array Value) (out : List AV), PRs ρ ps qs → VRs ρ cs arr.toList → fillA place cs ps = some out →
    ∃ arr', Instr.fill place arr qs = some arr' ∧ VRs ρ out arr'.toList := by
  intro ps
  induction ps with
  | nil =>
    intro qs cs arr out hp hr h
    cases qs with
    | nil => cases h; exact ⟨arr, rfl, hr⟩
    | cons q qs => have := hp.1; simp at this
  | cons p ps ih =>
    intro qs cs arr out hp hr h
    cases qs with
    | nil => have := hp.1; simp at this
    | cons q qs =>
      obtain ⟨i, x⟩ := p
      obtain ⟨j, y⟩ := q
      obtain ⟨rfl, hxy⟩ := hp.2 0 _ _ rfl rfl
      simp only at hxy
      have hp' : PRs ρ ps qs := ⟨by have := hp.1; simpa using this, fun k p q a b => hp.2 (k + 1) p q (by simpa using a) (by simpa using b)⟩
      simp only [fillA] at h
      split at h
      · cases h
      · rename_i off size hpl
        split at h
        · cases h
        · rename_i xs hxs
          split at h
          · cases h
          · rename_i hsz
            split at h
            · cases h
            · rename_i hle
              have hsz := Nat.eq_of_beq_eq_true hsz
              have hle := Nat.le_of_ble_eq_true hle
              have hvs := cellsA_ok hxs hxy
              have hl := hvs.1
              have hc := hr.1
              simp only [Array.length_toList] at hl hc
              obtain ⟨arr', ha, hr'⟩ := ih qs _ _ out hp' (VRs.splice (off := off) hr hvs (by omega)) h
              refine ⟨arr', ?_, hr'⟩
              simp only [Instr.fill, hpl]
              rw [if_neg (by simp; omega)]
              exact ha

theorem places_mapM (l : List Field) : ∀ (pl : List (Nat × Nat)), l.foldr (fun f r => match sizeT P f.type, r with | some n, some l => some ((f.offset, n) :: l) | _, _ => none) (some []) = some pl →
    l.mapM (fun f => (P.info? f.type).map (fun i => (f.offset, i.size))) = some pl := by
  induction l with
  | nil => intro pl h; simpa using h
  | cons f l ih =>
    intro pl h
    simp only [List.foldr_cons] at h
    split at h
    · rename_i n l' hs hr
      cases h
      obtain ⟨⟨i, hi, rfl⟩, _⟩ := sizeT_ok hs
      rw [List.mapM_cons, ih l' hr, hi]
      rfl
    · cases h

theorem buildA_ok {t : TypeId} {ps : List (Nat × AV)} {qs : Array (Nat × Value)} (hR : Rel base ρ σ w) (hp : PRs ρ ps qs.toList) (h : buildA P t ps = some v) : OkV P base ρ w (Instr.build t qs) v σ := by
  unfold buildA at h
  split at h
  · cases h
  · rename_i z hz
    obtain ⟨i, zv, hi, hzv, hr⟩ := zeroC_ok (ρ := ρ) hz
    split at h
    · rename_i fs hu
      split at h
      · rename_i pl hpl
        split at h
        · rename_i cs hf
          cases h
          obtain ⟨arr, ha, hv⟩ := fillA_ok _ _ _ _ _ hp hr hf
          refine .pure hR (v := .agg arr) (run_build w t qs arr ?_) (by simpa using hv.to_agg)
          have hm := places_mapM _ pl hpl
          unfold Program.built
          simp only [hi, hu, hzv, hm]
          simpa using ha
        · cases h
      · cases h
    · rename_i n e hu
      split at h
      · rename_i sz hs
        split at h
        · rename_i cs hf
          cases h
          obtain ⟨arr, ha, hv⟩ := fillA_ok _ _ _ _ _ hp hr hf
          obtain ⟨⟨ie, hie, rfl⟩, _⟩ := sizeT_ok hs
          refine .pure hR (v := .agg arr) (run_build w t qs arr ?_) (by simpa using hv.to_agg)
          unfold Program.built
          simp only [hi, hu, hzv, hie]
          exact ha
        · cases h
      · cases h
    · cases h

theorem repl_length {α : Type} (n : Nat) (l : List α) : (repl n l).length = n * l.length := by
  induction n with
  | zero => simp [repl]
  | succ n ih => simp [repl, ih, Nat.succ_mul, Nat.add_comm]

theorem repl_get {α : Type} (n : Nat) (l : List α) (k : Nat) (h : k < n * l.length) : (repl n l)[k]? = l[k % l.length]? := by
  induction n generalizing k with
  | zero => simp at h
  | succ n ih =>
    have hl : 0 < l.length := by rcases Nat.eq_zero_or_pos l.length with h0 | h0; · rw [h0] at h; simp at h
                                 · exact h0
    simp only [repl]
    by_cases hk : k < l.length
    · rw [List.getElem?_append_left hk, Nat.mod_eq_of_lt hk]
    · rw [List.getElem?_append_right (by omega), ih (k - l.length) (by rw [Nat.succ_mul] at h; omega)]
      congr 1
      rw [← Nat.mod_eq_sub_mod (by omega)]

/-- The cells of so many zero values. -/
theorem VRs.zeros {xs : List AV} {vs : Array Value} (h : VRs ρ xs vs.toList) (n : Nat) (m : Nat) (hm : n * xs.length = m) (hpos : 0 < xs.length) : VRs ρ (repl n xs) ((Array.range m).map (vs[· % vs.size]!)).toList := by
  have hl := h.1
  simp only [Array.length_toList] at hl
  refine ⟨by simp [repl_length, hm], fun i x v hx hv => ?_⟩
  have hi : i < m := by
    have := (List.getElem?_eq_some_iff.1 hx).1
    rw [repl_length, hm] at this; exact this
  rw [repl_get n xs i (by rw [hm]; exact hi)] at hx
  simp only [Array.toList_map, Array.toList_range, List.getElem?_map, List.getElem?_range hi, Option.map_some, Option.some.injEq] at hv
  have hlt : i % vs.size < vs.size := Nat.mod_lt _ (by omega)
  have : vs.toList[i % xs.length]? = some v := by
    rw [← hv, hl, getElem!_pos vs _ hlt]
    simp [hlt]
  exact h.2 _ x v hx this

theorem rho_slice {l : Loc} {b : Pos} {len cap : Nat} (h : ρ b = some l) (h0 : l.off = 0) : VR ρ (.sl b 0 len cap false) (.slice (some ⟨l.blk, 0, none⟩) len cap) := by
  have := VR.sl (o := 0) (len := len) (cap := cap) (opn := false) h
  simpa [h0] using this

theorem litA_ok {t : TypeId} {n : Nat} {ps : List (Nat × AV)} {qs : Array (Nat × Value)} (hR : Rel base ρ σ w) (hp : PRs ρ ps qs.toList) (h : (litA P t n ps).run nid σ = some (v, σ', u)) :
    OkV P base ρ w (Instr.buildSlice t n qs) v σ' := by
  unfold litA at h
  split at h
  · exact (run_fail h).elim
  · rename_i e he
    split at h
    · rename_i sz z hs hz
      split at h
      · rename_i h1 h2 h3
        split at h
        · rename_i cs hf
          obtain ⟨rfl, rfl, hn⟩ := run_new h
          have h1 := Nat.eq_of_beq_eq_true h1
          have h2 := Nat.le_of_ble_eq_true h2
          have h3 := Nat.le_of_ble_eq_true h3
          have hu : P.underlying t = some (.slice e) := by
            unfold elemOfSlice at he
            split at he
            · rename_i hu; cases he; exact hu
            · cases he
          obtain ⟨i, zv, hi, hzv, hr⟩ := zeroC_ok (ρ := ρ) hz
          have hzl := hr.1
          simp only [Array.length_toList] at hzl
          obtain ⟨arr, ha, hv⟩ := fillA_ok _ _ _ _ _ hp (hr.zeros n (n * sz) (by rw [h1]) (by omega)) hf
          have h4 := rel_newRow hR hn hv e sz false 0 (0, 0) [] (fun _ => rfl) (by simp) (by intro j _ ⟨_, h⟩; exact absurd h (by omega))
          simp only [List.append_nil, Array.toArray_toList] at h4
          refine ⟨.slice (some ⟨w.heap.size, 0, none⟩) n n, _, _, ?_, rho_slice (l := ⟨w.heap.size, 0, 0⟩) Rho.upd_same rfl, Rho.le_upd (hR.unset hn), h4, (Bel.refl _ _).alloc hR.le _⟩
          have h5 : ¬ (n * sz > 2 ^ 24) := by omega
          by_cases h0 : n * sz = 0
          · have hn0 : n = 0 := by rcases Nat.mul_eq_zero.1 h0 with h | h; · exact h
                                   · omega
            subst hn0
            have hz0 : Array.range 0 = #[] := Array.eq_empty_of_size_eq_zero (by simp)
            simp only [Nat.zero_mul, hz0, Array.map_empty] at ha
            simp [Instr.buildSlice, Sem.run_bind, run_underlying hu, Result.andThen, (sizeT_ok hs).2, hz0, ha, newRow]
          · simp only [Instr.buildSlice, Sem.run_bind, run_underlying hu, Result.andThen, (sizeT_ok hs).2, h5, h0, if_false, run_zeroValue hi hzv, Sem.run_pure]
            simp [ha, newRow, Sem.run_bind, Result.andThen]
        · exact (run_fail h).elim
      · exact (run_fail h).elim
    · exact (run_fail h).elim

end
end Go.Ev
