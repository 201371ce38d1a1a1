/- Part EvD of the proof that CostNil answers true for every filter and every mood. Conditions: those that each theorem names. -/
import Derived.Test.YtmcammnkdcfmaaaGreatDoorEvC
namespace Go.Ev
noncomputable section --all

/-! ### What there is besides is of no account: a block more, below T, that nobody names -/

theorem PTree.set_comm {α : Type} (x y : α) : ∀ (p q : Pos) (t : PTree α), p ≠ q → (t.set x p).set y q = (t.set y q).set x p := by
  intro p
  induction p with
  | xH => intro q t h; cases q <;> cases t <;> first | exact absurd rfl h | rfl
  | xO p ih =>
    intro q t h
    cases q with
    | xH => cases t <;> rfl
    | xI q => cases t <;> rfl
    | xO q =>
      have hn : p ≠ q := fun e => h (by rw [e])
      cases t <;> simp only [PTree.set_leaf_xO, PTree.set_leaf_xI, PTree.set_node_xO, PTree.set_node_xI, ih q _ hn]
  | xI p ih =>
    intro q t h
    cases q with
    | xH => cases t <;> rfl
    | xO q => cases t <;> rfl
    | xI q =>
      have hn : p ≠ q := fun e => h (by rw [e])
      cases t <;> simp only [PTree.set_leaf_xO, PTree.set_leaf_xI, PTree.set_node_xO, PTree.set_node_xI, ih q _ hn]

def St.add (b : Pos) (x : ABlk) (σ : St) : St := { σ with hp := σ.hp.set x b }

structure Ext (T : Nat) (σ σ1 : St) : Prop where
  lo : σ1.lo = σ.lo
  nx : σ.nx.toNat ≤ σ1.nx.toNat
  same : ∀ b : Pos, b.toNat < T → b.toNat < σ.lo → σ1.hp.get b = σ.hp.get b
  none : ∀ b : Pos, b.toNat < T → σ.hp.get b = none → σ1.hp.get b = none

theorem Ext.refl (T : Nat) (σ : St) : Ext T σ σ := ⟨rfl, Nat.le_refl _, fun _ _ _ => rfl, fun _ _ h => h⟩
theorem Ext.trans {T : Nat} {a b c : St} (h : Ext T a b) (k : Ext T b c) : Ext T a c :=
  ⟨k.lo.trans h.lo, Nat.le_trans h.nx k.nx, fun p hp hl => (k.same p hp (by rw [h.lo]; exact hl)).trans (h.same p hp hl), fun p hp hn => k.none p hp (h.none p hp hn)⟩

def Nice {α : Type} (T : Nat) (f : St → Option (α × St)) : Prop :=
  ∀ σ v σ1, T ≤ σ.nx.toNat → f σ = some (v, σ1) → Ext T σ σ1 ∧ ∀ b x, b.toNat < T → σ.hp.get b = none → f (σ.add b x) = some (v, σ1.add b x)

def R.add (b : Pos) (x : ABlk) : R → R
  | .nrm tm dm σ => .nrm tm dm (σ.add b x)
  | .ex id tm dm σ => .ex id tm dm (σ.add b x)
  | .ret tm dm σ => .ret tm dm (σ.add b x)
  | .fail => .fail

def R.ext (T : Nat) (σ : St) : R → Prop
  | .nrm _ _ σ1 => Ext T σ σ1
  | .ex _ _ _ σ1 => Ext T σ σ1
  | .ret _ _ σ1 => Ext T σ σ1
  | .fail => True

theorem R.ext_later {T : Nat} {σ σ1 : St} {r : R} (h : Ext T σ σ1) (k : r.ext T σ1) : r.ext T σ := by
  cases r <;> first | exact h.trans k | trivial

def NiceR (T : Nat) (f : St → R) : Prop :=
  ∀ σ, T ≤ σ.nx.toNat → f σ ≠ .fail → (f σ).ext T σ ∧ ∀ b x, b.toNat < T → σ.hp.get b = none → f (σ.add b x) = (f σ).add b x

section
variable {P : Program} {nG : Nat}

/-! #### Deeds -/

theorem getAll_add {hp : PTree ABlk} {b : Pos} {x : ABlk} (hb : hp.get b = none) : ∀ (rs : List Pos) (bs : List ABlk), getAll hp rs = some bs → getAll (hp.set x b) rs = some bs := by
  intro rs
  induction rs with
  | nil => intro bs h; exact h
  | cons r rs ih =>
    intro bs h
    simp only [getAll] at h ⊢
    have hr : r ≠ b := fun e => by rw [e, hb] at h; cases h
    rw [PTree.get_set_other _ _ _ _ (Ne.symm hr)]
    split at h
    · rename_i y hy
      split at h
      · rename_i ys hys
        rw [ih ys hys]
        exact h
      · cases h
    · cases h

theorem setAll_add {lo : Nat} {b : Pos} {x : ABlk} : ∀ (us : List (Pos × ABlk)) (hp hp' : PTree ABlk), hp.get b = none → setAll lo us hp = some hp' → setAll lo us (hp.set x b) = some (hp'.set x b) ∧ hp'.get b = none := by
  intro us
  induction us with
  | nil => intro hp hp' hb h; simp only [setAll, Option.some.injEq] at h ⊢; subst h; exact ⟨rfl, hb⟩
  | cons u us ih =>
    intro hp hp' hb h
    obtain ⟨c, y⟩ := u
    simp only [setAll] at h ⊢
    split at h
    · split at h
      · rename_i z hz
        have hc : c ≠ b := fun e => by rw [e, hb] at hz; cases hz
        rw [PTree.get_set_other _ _ _ _ (Ne.symm hc), hz]
        simp only
        rw [PTree.set_comm _ _ _ _ _ (Ne.symm hc)]
        exact ih _ _ (by rw [PTree.get_set_other _ _ _ _ hc]; exact hb) h
      · cases h
    · cases h

theorem setAll_same {lo : Nat} {b : Pos} (hb : b.toNat < lo) : ∀ (us : List (Pos × ABlk)) (hp hp' : PTree ABlk), setAll lo us hp = some hp' → hp'.get b = hp.get b := by
  intro us
  induction us with
  | nil => intro hp hp' h; simp only [setAll, Option.some.injEq] at h; subst h; rfl
  | cons u us ih =>
    intro hp hp' h
    obtain ⟨c, y⟩ := u
    simp only [setAll] at h
    split at h
    · rename_i hl
      have hl := Nat.le_of_ble_eq_true hl
      split at h
      · rw [ih _ _ h, PTree.get_set_other _ _ _ _ (fun e => by subst e; omega)]
      · cases h
    · cases h

theorem setAll_none {lo : Nat} {b : Pos} : ∀ (us : List (Pos × ABlk)) (hp hp' : PTree ABlk), hp.get b = none → setAll lo us hp = some hp' → hp'.get b = none := by
  intro us
  induction us with
  | nil => intro hp hp' hb h; simp only [setAll, Option.some.injEq] at h; subst h; exact hb
  | cons u us ih =>
    intro hp hp' hb h
    obtain ⟨c, y⟩ := u
    simp only [setAll] at h
    split at h
    · split at h
      · rename_i z hz
        have hc : c ≠ b := fun e => by rw [e, hb] at hz; cases hz
        exact ih _ _ (by rw [PTree.get_set_other _ _ _ _ hc]; exact hb) h
      · cases h
    · cases h

theorem run_nice {d : Deed} {nid : Pos} {T : Nat} {σ σ1 : St} {v : AV} {u : Bool} (hT : u = true → T ≤ nid.toNat) (h : d.run nid σ = some (v, σ1, u)) :
    Ext T σ σ1 ∧ σ1.nx = σ.nx ∧ ∀ b x, b.toNat < T → σ.hp.get b = none → d.run nid (σ.add b x) = some (v, σ1.add b x, u) := by
  cases d with
  | val x =>
    simp only [Deed.run, Option.some.injEq, Prod.mk.injEq] at h
    obtain ⟨rfl, rfl, rfl⟩ := h
    exact ⟨Ext.refl _ _, rfl, fun _ _ _ _ => rfl⟩
  | fail => cases h
  | mem rs k =>
    simp only [Deed.run] at h
    split at h
    · cases h
    · rename_i bs hbs
      split at h
      · cases h
      · rename_i r hr
        split at h
        · cases h
        · rename_i hp hset
          split at h
          · rename_i hnw
            simp only [Option.some.injEq, Prod.mk.injEq] at h
            obtain ⟨rfl, rfl, rfl⟩ := h
            refine ⟨⟨rfl, Nat.le_refl _, fun b _ hl => setAll_same hl _ _ _ hset, fun b _ hn => setAll_none _ _ _ hn hset⟩, rfl, fun b x hb hn => ?_⟩
            simp only [Deed.run, St.add, getAll_add hn rs bs hbs, hr, (setAll_add (x := x) _ _ _ hn hset).1, hnw]
          · rename_i y hnw
            split at h
            · cases h
            · rename_i hnid
              simp only [Option.some.injEq, Prod.mk.injEq] at h
              obtain ⟨rfl, rfl, rfl⟩ := h
              have hT := hT rfl
              have ne : ∀ b : Pos, b.toNat < T → nid ≠ b := fun b hb e => by subst e; omega
              refine ⟨⟨rfl, Nat.le_refl _, fun b hb hl => ?_, fun b hb hn => ?_⟩, rfl, fun b x hb hn => ?_⟩
              · rw [PTree.get_set_other _ _ _ _ (ne b hb)]; exact setAll_same hl _ _ _ hset
              · rw [PTree.get_set_other _ _ _ _ (ne b hb)]; exact setAll_none _ _ _ hn hset
              · simp only [Deed.run, St.add, getAll_add hn rs bs hbs, hr, (setAll_add (x := x) _ _ _ hn hset).1, hnw]
                rw [PTree.get_set_other _ _ _ _ (Ne.symm (ne b hb)), hnid]
                simp only
                rw [PTree.set_comm _ _ _ _ _ (ne b hb)]

def CfNice (cf : CallF) : Prop := ∀ (T : Nat) (f : FuncId) (args : List AV), Nice T (cf f args)
def YfNice (yf : YieldF) : Prop := ∀ (T : Nat) (l : Pos) (args : List AV), Nice T (yf l args)

theorem doOp_nice {cf : CallF} {yf : YieldF} (hcf : CfNice cf) (hyf : YfNice yf) {T : Nat} {nid : Pos} {o : Oper} {tm : Tm} {σ σ1 : St} {v : AV} {u : Bool} (hT : T ≤ nid.toNat) (hx : T ≤ σ.nx.toNat)
    (h : doOp P nG cf yf nid o tm σ = some (v, σ1, u)) : Ext T σ σ1 ∧ ∀ b x, b.toNat < T → σ.hp.get b = none → doOp P nG cf yf nid o tm (σ.add b x) = some (v, σ1.add b x, u) := by
  unfold doOp at h ⊢
  split at h
  · rename_i c hc
    split at h
    · rename_i hb
      obtain ⟨h1, _, h2⟩ := run_nice (fun _ => hT) h
      exact ⟨h1, fun b x hb hn => h2 b x hb hn⟩
    · rename_i hnb
      split at h
      · rename_i f args ht
        split at h
        · rename_i v2 σ2 hcall
          simp only [Option.some.injEq, Prod.mk.injEq] at h
          obtain ⟨rfl, rfl, rfl⟩ := h
          obtain ⟨h1, h2⟩ := hcf T f args σ v2 σ2 hx hcall
          exact ⟨h1, fun b x hb hn => by simp only [hc, ht, h2 b x hb hn]⟩
        · cases h
      · rename_i l args ht
        split at h
        · rename_i v2 σ2 hcall
          simp only [Option.some.injEq, Prod.mk.injEq] at h
          obtain ⟨rfl, rfl, rfl⟩ := h
          obtain ⟨h1, h2⟩ := hyf T l args σ v2 σ2 hx hcall
          exact ⟨h1, fun b x hb hn => by simp only [hc, ht, h2 b x hb hn]⟩
        · cases h
      · cases h
  · obtain ⟨h1, _, h2⟩ := run_nice (fun _ => hT) h
    exact ⟨h1, fun b x hb hn => h2 b x hb hn⟩

theorem seqOps_nice {cf : CallF} {yf : YieldF} (hcf : CfNice cf) (hyf : YfNice yf) {T : Nat} {ops : Array Oper} : ∀ (l : List Nat) (tm : Tm), Nice T (seqOps P nG cf yf ops l tm) := by
  intro l
  induction l with
  | nil =>
    intro tm σ v σ1 hT h
    simp only [seqOps, Option.some.injEq, Prod.mk.injEq] at h
    obtain ⟨rfl, rfl⟩ := h
    exact ⟨Ext.refl _ _, fun _ _ _ _ => rfl⟩
  | cons i l ih =>
    intro tm σ v σ1 hT h
    simp only [seqOps] at h ⊢
    split at h
    · cases h
    · rename_i o ho
      split at h
      · cases h
      · rename_i hw
        obtain ⟨h1, h2⟩ := ih _ σ v σ1 hT h
        exact ⟨h1, fun b x hb hn => h2 b x hb hn⟩
      · rename_i hw
        split at h
        · cases h
        · rename_i v2 σ2 u hd
          obtain ⟨h1, h2⟩ := doOp_nice hcf hyf hT hT hd
          split at h
          · have hsucc := Pos.toNat_succ σ2.nx
            obtain ⟨h3, h4⟩ := ih _ _ v σ1 (by simp only [Pos.toNat_succ]; exact Nat.le_succ_of_le (Nat.le_trans hT h1.nx)) h
            have e3 : Ext T σ2 { σ2 with nx := σ2.nx.succ } := ⟨rfl, by simp only [Pos.toNat_succ]; omega, fun _ _ _ => rfl, fun _ _ h => h⟩
            refine ⟨h1.trans (e3.trans h3), fun b x hb hn => ?_⟩
            have := h2 b x hb hn
            simp only [ho, hw, show (σ.add b x).nx = σ.nx from rfl, this]
            exact h4 b x hb (h1.none b hb hn)
          · obtain ⟨h3, h4⟩ := ih _ _ v σ1 (Nat.le_trans hT h1.nx) h
            refine ⟨h1.trans h3, fun b x hb hn => ?_⟩
            have := h2 b x hb hn
            simp only [ho, hw, show (σ.add b x).nx = σ.nx from rfl, this]
            exact h4 b x hb (h1.none b hb hn)

end
end --all
end Go.Ev

namespace Go.Ev
noncomputable section --all

section
variable {P : Program} {nG : Nat}

theorem addPos_toNat (p : Pos) (n : Nat) : (addPos p n).toNat = p.toNat + n := by
  induction n with
  | zero => rfl
  | succ n ih => simp [addPos, Pos.toNat_succ, ih]; omega

/-! #### Regions that draw -/

/-- One operation of a region that draws: with the call's lo. -/
theorem drawOp_nice {cf : CallF} (hcf : CfNice cf) {T : Nat} {ops : Array Oper} {base : Pos} {lim i : Nat} {tm tm' : Tm} {σ σ1 : St} {fp : FP} (hb : T ≤ base.toNat) (hx : T ≤ σ.nx.toNat) (hlo : σ.lo ≤ lim)
    (h : drawOp P nG cf ops base lim i tm σ = some (tm', σ1, fp)) : Ext T σ σ1 ∧ ∀ b x, b.toNat < T → σ.hp.get b = none → drawOp P nG cf ops base lim i tm (σ.add b x) = some (tm', σ1.add b x, fp) := by
  unfold drawOp at h ⊢
  split at h
  · cases h
  · rename_i o ho
    split at h
    · cases h
    · rename_i hw
      simp only [Option.some.injEq, Prod.mk.injEq] at h
      obtain ⟨rfl, rfl, rfl⟩ := h
      exact ⟨Ext.refl _ _, fun b x _ _ => by simp only [ho, hw]⟩
    · rename_i hw
      split at h
      · rename_i hc
        split at h
        · rename_i c hop
          split at h
          · rename_i f args hct
            split at h
            · rename_i hl
              split at h
              · rename_i v σ2 hcall
                simp only [Option.some.injEq, Prod.mk.injEq] at h
                obtain ⟨rfl, rfl, rfl⟩ := h
                obtain ⟨h1, h2⟩ := hcf T f args σ v σ2 hx hcall
                exact ⟨h1, fun b x hb hn => by simp only [h2 b x hb hn]⟩
              · cases h
            · rename_i hl
              split at h
              · rename_i v σ2 hcall
                simp only [Option.some.injEq, Prod.mk.injEq] at h
                obtain ⟨rfl, rfl, rfl⟩ := h
                obtain ⟨h1, h2⟩ := hcf T f args { σ with lo := lim } v σ2 hx hcall
                refine ⟨⟨rfl, h1.nx, fun b hb hl => h1.same b hb (Nat.lt_of_lt_of_le hl hlo), h1.none⟩, fun b x hb hn => ?_⟩
                have := h2 b x hb hn
                rw [show ({ σ.add b x with lo := lim } : St) = St.add b x { σ with lo := lim } from rfl, this]
                rfl
              · cases h
          · cases h
        · cases h
      · rename_i hc
        split at h
        · rename_i v σ2 u hd
          simp only [Option.some.injEq, Prod.mk.injEq] at h
          obtain ⟨rfl, rfl, rfl⟩ := h
          have hT : T ≤ (addPos base i).toNat := by rw [addPos_toNat]; omega
          obtain ⟨h1, _, h2⟩ := run_nice (fun _ => hT) hd
          refine ⟨h1, fun b x hb hn => ?_⟩
          simp only [h2 b x hb hn]
          congr 3
          -- the marks
          unfold Deed.fp
          generalize deed P o (evA nG tm) = d at hd
          cases d with
          | mem rs k =>
            simp only
            cases hga : getAll σ.hp rs with
            | none => simp [Deed.run, hga] at hd
            | some bs => simp only [St.add, getAll_add hn rs bs hga]
          | _ => rfl
        · cases h

theorem drawOps_nice {cf : CallF} (hcf : CfNice cf) {T : Nat} {ops : Array Oper} {base : Pos} {lim : Nat} (hb : T ≤ base.toNat) : ∀ (l : List Nat) (tm tm' : Tm) (σ σ1 : St) (fps : List (Nat × FP)), T ≤ σ.nx.toNat → σ.lo ≤ lim →
    drawOps P nG cf ops base lim l tm σ = some (tm', σ1, fps) → Ext T σ σ1 ∧ ∀ b x, b.toNat < T → σ.hp.get b = none → drawOps P nG cf ops base lim l tm (σ.add b x) = some (tm', σ1.add b x, fps) := by
  intro l
  induction l with
  | nil =>
    intro tm tm' σ σ1 fps _ _ h
    simp only [drawOps, Option.some.injEq, Prod.mk.injEq] at h
    obtain ⟨rfl, rfl, rfl⟩ := h
    exact ⟨Ext.refl _ _, fun _ _ _ _ => rfl⟩
  | cons i l ih =>
    intro tm tm' σ σ1 fps hx hlo h
    simp only [drawOps] at h ⊢
    split at h
    · cases h
    · rename_i tm2 σ2 fp hd
      split at h
      · cases h
      · rename_i tm3 σ3 fps3 hds
        simp only [Option.some.injEq, Prod.mk.injEq] at h
        obtain ⟨rfl, rfl, rfl⟩ := h
        obtain ⟨h1, h2⟩ := drawOp_nice hcf hb hx hlo hd
        obtain ⟨h3, h4⟩ := ih tm2 tm3 σ2 σ3 fps3 (Nat.le_trans hx h1.nx) (by rw [h1.lo]; exact hlo) hds
        refine ⟨h1.trans h3, fun b x hb hn => ?_⟩
        simp only [h2 b x hb hn, h4 b x hb (h1.none b hb hn)]

theorem drawRegion_nice {cf : CallF} (hcf : CfNice cf) {T : Nat} {ops : Array Oper} {tm : Tm} : Nice T (drawRegion P nG cf ops tm) := by
  intro σ v σ1 hT h
  unfold drawRegion at h ⊢
  simp only at h ⊢
  split at h
  · rename_i hlo hok
    split at h
    · cases h
    · rename_i tm2 σ2 fps hd
      split at h
      · rename_i hp
        simp only [Option.some.injEq, Prod.mk.injEq] at h
        obtain ⟨rfl, rfl⟩ := h
        have hlo' := Nat.le_of_ble_eq_true hlo
        have htop := addPos_toNat σ.nx ops.size
        obtain ⟨h1, h2⟩ := drawOps_nice (T := T) hcf (by exact hT) _ tm tm2 _ σ2 fps (by simp only [htop]; omega) (by simp only [htop]; omega) hd
        refine ⟨⟨h1.lo, Nat.le_trans (by simp only [htop]; omega) h1.nx, h1.same, h1.none⟩, fun b x hb hn => ?_⟩
        have := h2 b x hb hn
        simp only [St.add] at this ⊢
        simp only [hlo, hok, this, hp]
      · cases h
  · cases h

/-! #### Blocks, ends of calls -/

theorem setB_nice {T : Nat} {b : Pos} {y : ABlk} {σ σ1 : St} (h : setB b y σ = some σ1) : Ext T σ σ1 ∧ σ1.nx = σ.nx ∧ ∀ c x, σ.hp.get c = none → setB b y (σ.add c x) = some (σ1.add c x) := by
  obtain ⟨z, hz, rfl, hlo⟩ := setB_spec h
  refine ⟨⟨rfl, Nat.le_refl _, fun c _ hc => ?_, fun c _ hn => ?_⟩, rfl, fun c x hn => ?_⟩
  · exact PTree.get_set_other _ _ _ _ (fun e => by subst e; omega)
  · have : b ≠ c := fun e => by rw [e, hn] at hz; cases hz
    rw [PTree.get_set_other _ _ _ _ this]; exact hn
  · have hne : b ≠ c := fun e => by rw [e, hn] at hz; cases hz
    unfold setB
    simp only [St.add, PTree.get_set_other _ _ _ _ (Ne.symm hne), hz, Nat.ble_eq_true_of_le hlo]
    rw [PTree.set_comm _ _ _ _ _ (Ne.symm hne)]

theorem newB_nice {T : Nat} {y : ABlk} {σ σ1 : St} (hT : T ≤ σ.nx.toNat) (h : newB y σ = some σ1) : Ext T σ σ1 ∧ ∀ c x, c.toNat < T → σ.hp.get c = none → newB y (σ.add c x) = some (σ1.add c x) := by
  obtain ⟨hz, rfl⟩ := newB_spec h
  have ne : ∀ c : Pos, c.toNat < T → σ.nx ≠ c := fun c hc e => by rw [e] at hT; omega
  refine ⟨⟨rfl, by simp only [Pos.toNat_succ]; omega, fun c hc _ => ?_, fun c hc hn => ?_⟩, fun c x hc hn => ?_⟩
  · exact PTree.get_set_other _ _ _ _ (ne c hc)
  · rw [PTree.get_set_other _ _ _ _ (ne c hc)]; exact hn
  · unfold newB
    simp only [St.add, PTree.get_set_other _ _ _ _ (Ne.symm (ne c hc)), hz]
    rw [PTree.set_comm _ _ _ _ _ (ne c hc)]

theorem shut_nice {T : Nat} : ∀ (dm : List Pos) (σ σ1 : St), shut dm σ = some σ1 → Ext T σ σ1 ∧ ∀ c x, c.toNat < T → σ.hp.get c = none → shut dm (σ.add c x) = some (σ1.add c x) := by
  intro dm
  induction dm with
  | nil => intro σ σ1 h; simp only [shut, Option.some.injEq] at h; subst h; exact ⟨Ext.refl _ _, fun _ _ _ _ => rfl⟩
  | cons d dm ih =>
    intro σ σ1 h
    simp only [shut] at h ⊢
    split at h
    · rename_i hd
      split at h
      · rename_i σ2 hs
        obtain ⟨h1, _, h2⟩ := setB_nice (T := T) hs
        obtain ⟨h3, h4⟩ := ih _ _ h
        refine ⟨h1.trans h3, fun c x hc hn => ?_⟩
        have hne : d ≠ c := fun e => by rw [e, hn] at hd; cases hd
        simp only [show (σ.add c x).hp.get d = σ.hp.get d from PTree.get_set_other _ _ _ _ (Ne.symm hne), hd, h2 c x hn]
        exact h4 c x hc (h1.none c hc hn)
      · cases h
    · cases h

theorem resAll_nice {tm : Tm} {σ : St} {c : Pos} {x : ABlk} (hn : σ.hp.get c = none) : ∀ (rs : List ResultVar) (vs : List AV), resAll P nG tm σ rs = some vs → resAll P nG tm (σ.add c x) rs = some vs := by
  intro rs
  induction rs with
  | nil => intro vs h; exact h
  | cons r rs ih =>
    intro vs h
    simp only [resAll] at h ⊢
    split at h
    · rename_i v vs' hv hvs
      cases h
      have : resA P nG r tm (σ.add c x) = some v := by
        cases r with
        | tmp t => exact hv
        | cell a t =>
          simp only [resA] at hv ⊢
          split at hv
          · rename_i v2 σ2 hl
            cases hv
            have e0 := (run_nice (T := c.toNat + 1) (fun e => by cases e) hl).2.2 c x (by omega) hn
            simp only [e0]
          · cases hv
      simp only [this, ih vs' hvs]
    · cases h

end
end --all
end Go.Ev

namespace Go.Ev
noncomputable section --all

section
variable {P : Program} {nG : Nat}

def EvNice (ev : EvF) : Prop := ∀ (T : Nat) (rnd : Option Pos) (c : Code) (tm : Tm) (dm : List Pos), NiceR T (ev rnd c tm dm)

theorem resV_nice {tm : Tm} {σ : St} {c : Pos} {x : ABlk} {v : AV} {rs : List ResultVar} (hn : σ.hp.get c = none) (h : resV P nG tm σ rs = some v) : resV P nG tm (σ.add c x) rs = some v := by
  unfold resV at h ⊢
  split at h
  · rename_i y hy
    rw [resAll_nice hn _ _ hy]
    exact h
  · rename_i vs hvs hy
    rw [resAll_nice hn _ _ hy]
    cases h
    split
    · rename_i z hz
      cases hz
      exact absurd rfl (hvs z)
    · rename_i vs2 _ hz
      cases hz; rfl
    · rename_i hz; cases hz
  · cases h

/-- What there is besides is of no account. -/
def ExtNice (X : ExtF) : Prop := ∀ f g, X f = some g → ∀ T args, Nice T (g args)

theorem callW_nice {X : ExtF} (hX : ExtNice X) {ev : EvF} (hev : EvNice ev) : CfNice (callW P nG X ev) := by
  intro T f args σ v σ1 hT h
  unfold callW at h ⊢
  split at h
  · rename_i g hg
    obtain ⟨h1, h2⟩ := hX f g hg T args σ v σ1 hT h
    exact ⟨h1, fun b x hb hn => by simp only [h2 b x hb hn]⟩
  · rename_i hg
    split at h
    · cases h
    · rename_i fn c hb
      obtain hn := hev T none c (initTm fn.ntmps args) [] σ hT
      have fin : ∀ tm dm σ2, (match shut dm σ2 with
          | none => none
          | some σ'' => match resV P nG tm σ'' fn.results.toList with
            | some v => some (v, σ'')
            | none => none) = some (v, σ1) → Ext T σ2 σ1 ∧ ∀ b x, b.toNat < T → σ2.hp.get b = none → (match shut dm (σ2.add b x) with
          | none => none
          | some σ'' => match resV P nG tm σ'' fn.results.toList with
            | some v => some (v, σ'')
            | none => none) = some (v, σ1.add b x) := by
        intro tm dm σ2 h1
        split at h1
        · cases h1
        · rename_i σ3 hs
          split at h1
          · rename_i v3 hv3
            simp only [Option.some.injEq, Prod.mk.injEq] at h1
            obtain ⟨rfl, rfl⟩ := h1
            obtain ⟨h2, h3⟩ := shut_nice (T := T) dm σ2 σ3 hs
            exact ⟨h2, fun b x hb hn => by simp only [h3 b x hb hn, resV_nice (h2.none b hb hn) hv3]⟩
          · cases h1
      simp only at h ⊢
      cases he : ev none c (initTm fn.ntmps args) [] σ with
      | nrm tm dm σ2 =>
        rw [he] at h hn
        obtain ⟨h1, h2⟩ := hn (by simp)
        obtain ⟨h3, h4⟩ := fin tm dm σ2 h
        refine ⟨Ext.trans h1 h3, fun b x hb hn => ?_⟩
        rw [h2 b x hb hn]
        exact h4 b x hb (Ext.none h1 b hb hn)
      | ret tm dm σ2 =>
        rw [he] at h hn
        obtain ⟨h1, h2⟩ := hn (by simp)
        obtain ⟨h3, h4⟩ := fin tm dm σ2 h
        refine ⟨Ext.trans h1 h3, fun b x hb hn => ?_⟩
        rw [h2 b x hb hn]
        exact h4 b x hb (Ext.none h1 b hb hn)
      | ex id tm dm σ2 => rw [he] at h; cases h
      | fail => rw [he] at h; cases h

theorem get_add {σ : St} {l c : Pos} {x y : ABlk} (hn : σ.hp.get c = none) (h : σ.hp.get l = some y) : (σ.add c x).hp.get l = some y := by
  have hne : c ≠ l := fun e => by rw [← e, hn] at h; cases h
  exact (PTree.get_set_other _ _ _ _ hne).trans h

theorem endRound_nice {T : Nat} {l : Pos} {j : Option Code} : Nice T (endRound l j) := by
  intro σ v σ1 hT h
  unfold endRound at h ⊢
  split at h
  · rename_i st pend tm ps assign body d hlp
    split at h
    · rename_i σ2 hs
      simp only [Option.some.injEq, Prod.mk.injEq] at h
      obtain ⟨rfl, rfl⟩ := h
      obtain ⟨h1, _, h2⟩ := setB_nice (T := T) hs
      exact ⟨h1, fun b x hb hn => by simp only [get_add hn hlp, h2 b x hn]⟩
    · cases h
  · cases h

theorem yieldW_nice {ev : EvF} (hev : EvNice ev) : YfNice (yieldW ev) := by
  intro T l args σ v σ1 hT h
  unfold yieldW at h ⊢
  split at h
  · rename_i pend tm0 ps assign body d hlp
    split at h
    · cases h
    · rename_i hsz
      have hn := hev T (some l) assign (putsA ps.toList args tm0) [] σ hT
      split at h
      · rename_i tm1 dm1 σ2 he
        rw [he] at hn
        obtain ⟨e1, a1⟩ := hn (by simp)
        have e1 : Ext T σ σ2 := e1
        split at h
        · rename_i pend2 tm2 ps2 assign2 body2 d2 hlp2
          split at h
          · rename_i σ3 hs3
            obtain ⟨e2, nx2, a2⟩ := setB_nice (T := T) hs3
            have e12 := e1.trans e2
            have hn2 := hev T (some l) body tm1 dm1 σ3 (Nat.le_trans hT e12.nx)
            cases he2 : ev (some l) body tm1 dm1 σ3 with
            | fail => rw [he2] at h; cases h
            | nrm tm3 dm3 σ4 =>
              rw [he2] at hn2 h
              obtain ⟨e3, a3⟩ := hn2 (by simp)
              have e3 : Ext T σ3 σ4 := e3
              obtain ⟨e4, a4⟩ := endRound_nice σ4 v σ1 (Nat.le_trans hT (e12.trans e3).nx) h
              refine ⟨e12.trans (e3.trans e4), fun b x hb hn => ?_⟩
              simp only [get_add hn hlp, hsz, a1 b x hb hn, R.add, get_add (e1.none b hb hn) hlp2, a2 b x (e1.none b hb hn), a3 b x hb (e12.none b hb hn)]
              exact a4 b x hb ((e12.trans e3).none b hb hn)
            | ret tm3 dm3 σ4 =>
              rw [he2] at hn2 h
              obtain ⟨e3, a3⟩ := hn2 (by simp)
              have e3 : Ext T σ3 σ4 := e3
              obtain ⟨e4, a4⟩ := endRound_nice σ4 v σ1 (Nat.le_trans hT (e12.trans e3).nx) h
              refine ⟨e12.trans (e3.trans e4), fun b x hb hn => ?_⟩
              simp only [get_add hn hlp, hsz, a1 b x hb hn, R.add, get_add (e1.none b hb hn) hlp2, a2 b x (e1.none b hb hn), a3 b x hb (e12.none b hb hn)]
              exact a4 b x hb ((e12.trans e3).none b hb hn)
            | ex id tm3 dm3 σ4 =>
              rw [he2] at hn2 h
              obtain ⟨e3, a3⟩ := hn2 (by simp)
              have e3 : Ext T σ3 σ4 := e3
              obtain ⟨e4, a4⟩ := endRound_nice σ4 v σ1 (Nat.le_trans hT (e12.trans e3).nx) h
              refine ⟨e12.trans (e3.trans e4), fun b x hb hn => ?_⟩
              simp only [get_add hn hlp, hsz, a1 b x hb hn, R.add, get_add (e1.none b hb hn) hlp2, a2 b x (e1.none b hb hn), a3 b x hb (e12.none b hb hn)]
              exact a4 b x hb ((e12.trans e3).none b hb hn)
          · cases h
        · cases h
      · cases h
  · cases h

theorem jumpR_nice {T : Nat} {j : Option Code} {tm : Tm} {dm : List Pos} : NiceR T (jumpR j tm dm) := by
  intro σ hT h
  cases j with
  | none => exact ⟨Ext.refl _ _, fun _ _ _ _ => rfl⟩
  | some c => cases c <;> first | exact absurd rfl h | exact ⟨Ext.refl _ _, fun _ _ _ _ => rfl⟩

/-- Behind the record. -/
def goR (P : Program) (nG : Nat) (cf : CallF) (f : Operand) (tm : Tm) (l : Pos) (dm : List Pos) (σ1 : St) : R := match evA nG tm f with
  | .fn g xs ys => match bodyA P g with
    | none => .fail
    | some _ => match cf g (xs ++ (.yl l :: ys)) σ1 with
      | some (_, σ2) => match σ2.hp.get l with
        | some (.loop st pend tm' ps' a' b' d') => match st with
          | .busy => .fail
          | _ => match setB l (.loop .exhausted pend tm' ps' a' b' d') σ2 with
            | some σ3 => jumpR pend tm dm σ3
            | none => .fail
        | _ => .fail
      | none => .fail
  | _ => .fail

theorem goR_nice {cf : CallF} (hcf : CfNice cf) {T : Nat} {f : Operand} {tm : Tm} {l : Pos} {dm : List Pos} : NiceR T (goR P nG cf f tm l dm) := by
  intro σ hT h
  unfold goR at h ⊢
  split at h
  · rename_i g xs ys hev
    split at h
    · exact absurd rfl h
    · rename_i bc hb
      cases hc : cf g (xs ++ (.yl l :: ys)) σ with
      | none => rw [hc] at h; exact absurd rfl h
      | some r =>
        obtain ⟨v2, σ2⟩ := r
        rw [hc] at h
        obtain ⟨e1, a1⟩ := hcf T g _ σ v2 σ2 hT hc
        simp only at h ⊢
        split at h
        · rename_i st pend tm' ps' a' b' d' hlp
          cases hs : setB l (.loop .exhausted pend tm' ps' a' b' d') σ2 with
          | none => rw [hs] at h; cases st <;> exact absurd rfl h
          | some σ3 =>
            rw [hs] at h
            obtain ⟨e2, _, a2⟩ := setB_nice (T := T) hs
            have e12 := e1.trans e2
            have key : jumpR pend tm dm σ3 ≠ .fail → R.ext T σ (jumpR pend tm dm σ3) ∧ ∀ b x, b.toNat < T → σ.hp.get b = none → jumpR pend tm dm (σ3.add b x) = (jumpR pend tm dm σ3).add b x := by
              intro hj
              obtain ⟨e3, a3⟩ := jumpR_nice (T := T) σ3 (Nat.le_trans hT e12.nx) hj
              exact ⟨R.ext_later e12 e3, fun b x hb hn => a3 b x hb (e12.none b hb hn)⟩
            cases st with
            | busy => exact absurd rfl h
            | _ =>
              obtain ⟨k1, k2⟩ := key h
              refine ⟨by first | exact k1 | (simp only [hlp, hs]; exact k1), fun b x hb hn => ?_⟩
              simp only [a1 b x hb hn, get_add (e1.none b hb hn) hlp, a2 b x (e1.none b hb hn), hlp, hs]
              exact k2 b x hb hn
        · exact absurd rfl h
  · exact absurd rfl h

theorem rangeW_nice {cf : CallF} (hcf : CfNice cf) {T : Nat} {rnd : Option Pos} {f : Operand} {ps : Array Tmp} {assign body : Code} {tm : Tm} {dm : List Pos} : NiceR T (rangeW P nG cf rnd f ps assign body tm dm) := by
  intro σ hT h
  cases rnd with
  | none =>
    have e : ∀ σ, rangeW P nG cf none f ps assign body tm dm σ = (match newB (.dfr true) σ with
      | none => .fail
      | some σ0 => match newB (.loop .ready none tm ps assign body σ.nx) σ0 with
        | none => .fail
        | some σ1 => goR P nG cf f tm σ0.nx (σ.nx :: dm) σ1) := fun σ => rfl
    rw [e] at h ⊢
    cases h0 : newB (.dfr true) σ with
    | none => rw [h0] at h; exact absurd rfl h
    | some σ0 =>
      rw [h0] at h
      simp only at h ⊢
      obtain ⟨e0, a0⟩ := newB_nice hT h0
      cases h1 : newB (.loop .ready none tm ps assign body σ.nx) σ0 with
      | none => rw [h1] at h; exact absurd rfl h
      | some σ1 =>
        rw [h1] at h
        simp only at h ⊢
        have hT0 := Nat.le_trans hT e0.nx
        obtain ⟨e1, a1⟩ := newB_nice hT0 h1
        have e01 := e0.trans e1
        obtain ⟨e2, a2⟩ := goR_nice hcf σ1 (Nat.le_trans hT e01.nx) h
        refine ⟨R.ext_later e01 e2, fun b x hb hn => ?_⟩
        rw [e]
        simp only [a0 b x hb hn, show (σ.add b x).nx = σ.nx from rfl, a1 b x hb (e0.none b hb hn), show (σ0.add b x).nx = σ0.nx from rfl]
        exact a2 b x hb (e01.none b hb hn)
  | some l =>
    have e : ∀ σ, rangeW P nG cf (some l) f ps assign body tm dm σ = (match σ.hp.get l with
      | some (.loop _ _ _ _ _ _ d) => (match newB (.loop .ready none tm ps assign body d) σ with
        | none => .fail
        | some σ1 => goR P nG cf f tm σ.nx dm σ1)
      | _ => .fail) := fun σ => rfl
    rw [e] at h ⊢
    cases hg : σ.hp.get l with
    | none => rw [hg] at h; exact absurd rfl h
    | some blk =>
      rw [hg] at h
      cases blk with
      | loop st0 pend0 tm0 ps0 as0 bo0 d0 =>
        simp only at h ⊢
        cases h1 : newB (.loop .ready none tm ps assign body d0) σ with
        | none => rw [h1] at h; exact absurd rfl h
        | some σ1 =>
          rw [h1] at h
          simp only at h ⊢
          obtain ⟨e1, a1⟩ := newB_nice hT h1
          obtain ⟨e2, a2⟩ := goR_nice hcf σ1 (Nat.le_trans hT e1.nx) h
          refine ⟨R.ext_later e1 e2, fun b x hb hn => ?_⟩
          rw [e]
          simp only [get_add hn hg, a1 b x hb hn, show (σ.add b x).nx = σ.nx from rfl]
          exact a2 b x hb (e1.none b hb hn)
      | _ => exact absurd rfl h

theorem iter_nice {T : Nat} {f : Tm → List Pos → St → R} (hf : ∀ tm dm, NiceR T (f tm dm)) : ∀ (n : Nat) (tm : Tm) (dm : List Pos), NiceR T (iter f n tm dm) := by
  intro n
  induction n with
  | zero => intro tm dm σ _ h; exact absurd rfl h
  | succ n ih =>
    intro tm dm σ hT h
    simp only [iter] at h ⊢
    cases he : f tm dm σ with
    | fail => rw [he] at h; exact absurd rfl h
    | nrm tm' dm' σ' =>
      rw [he] at h
      have hn := hf tm dm σ hT
      rw [he] at hn
      obtain ⟨e1, a1⟩ := hn (by simp)
      have e1 : Ext T σ σ' := e1
      obtain ⟨e2, a2⟩ := ih tm' dm' σ' (Nat.le_trans hT e1.nx) h
      refine ⟨R.ext_later e1 e2, fun b x hb hn => ?_⟩
      simp only [a1 b x hb hn, R.add]
      exact a2 b x hb (e1.none b hb hn)
    | ex id tm' dm' σ' =>
      have hn := hf tm dm σ hT
      rw [he] at hn
      obtain ⟨e1, a1⟩ := hn (by simp)
      exact ⟨e1, fun b x hb hn => by simp only [a1 b x hb hn, R.add]⟩
    | ret tm' dm' σ' =>
      have hn := hf tm dm σ hT
      rw [he] at hn
      obtain ⟨e1, a1⟩ := hn (by simp)
      exact ⟨e1, fun b x hb hn => by simp only [a1 b x hb hn, R.add]⟩

theorem evC_nice {X : ExtF} (hX : ExtNice X) : ∀ n, EvNice (evC P nG X n) := by
  intro n
  induction n with
  | zero => intro T rnd c tm dm σ hT h; exact absurd rfl h
  | succ n ih =>
    intro T rnd c tm dm σ hT h
    have hcf : CfNice (callW P nG X (evC P nG X n)) := callW_nice hX ih
    have hyf : YfNice (yieldW (evC P nG X n)) := yieldW_nice ih
    cases c with
    | skip => exact ⟨Ext.refl _ _, fun _ _ _ _ => rfl⟩
    | label l => exact ⟨Ext.refl _ _, fun _ _ _ _ => rfl⟩
    | exit id => exact ⟨Ext.refl _ _, fun _ _ _ _ => rfl⟩
    | ret => exact ⟨Ext.refl _ _, fun _ _ _ _ => rfl⟩
    | seq p q =>
      simp only [evC] at h ⊢
      have hn := ih T rnd p tm dm σ hT
      cases he : evC P nG X n rnd p tm dm σ with
      | fail => rw [he] at h; exact absurd rfl h
      | nrm tm' dm' σ' =>
        rw [he] at h hn
        obtain ⟨e1, a1⟩ := hn (by simp)
        have e1 : Ext T σ σ' := e1
        obtain ⟨e2, a2⟩ := ih T rnd q tm' dm' σ' (Nat.le_trans hT e1.nx) h
        refine ⟨R.ext_later e1 e2, fun b x hb hn => ?_⟩
        simp only [a1 b x hb hn, R.add]
        exact a2 b x hb (e1.none b hb hn)
      | ex id tm' dm' σ' =>
        rw [he] at hn
        obtain ⟨e1, a1⟩ := hn (by simp)
        exact ⟨e1, fun b x hb hn => by simp only [a1 b x hb hn, R.add]⟩
      | ret tm' dm' σ' =>
        rw [he] at hn
        obtain ⟨e1, a1⟩ := hn (by simp)
        exact ⟨e1, fun b x hb hn => by simp only [a1 b x hb hn, R.add]⟩
    | cond y p q =>
      simp only [evC] at h ⊢
      split at h
      · rename_i he
        exact ih T rnd p tm dm σ hT h
      · rename_i he
        exact ih T rnd q tm dm σ hT h
      · exact absurd rfl h
    | block id p =>
      simp only [evC] at h ⊢
      have hn := ih T rnd p tm dm σ hT
      cases he : evC P nG X n rnd p tm dm σ with
      | fail => rw [he] at h; exact absurd rfl h
      | nrm tm' dm' σ' =>
        rw [he] at hn
        obtain ⟨e1, a1⟩ := hn (by simp)
        exact ⟨e1, fun b x hb hn => by simp only [a1 b x hb hn, R.add]⟩
      | ret tm' dm' σ' =>
        rw [he] at hn
        obtain ⟨e1, a1⟩ := hn (by simp)
        exact ⟨e1, fun b x hb hn => by simp only [a1 b x hb hn, R.add]⟩
      | ex j tm' dm' σ' =>
        rw [he] at hn
        obtain ⟨e1, a1⟩ := hn (by simp)
        simp only
        cases hj : Nat.beq j id with
        | true => exact ⟨e1, fun b x hb hn => by simp only [a1 b x hb hn, R.add, hj]⟩
        | false => exact ⟨e1, fun b x hb hn => by simp only [a1 b x hb hn, R.add, hj]⟩
    | loop p => exact iter_nice (fun tm dm => ih T rnd p tm dm) n tm dm σ hT h
    | scope p => exact ih T rnd p tm dm σ hT h
    | region id ops dr =>
      cases dr with
      | false =>
        simp only [evC] at h ⊢
        cases he : seqOps P nG (callW P nG X (evC P nG X n)) (yieldW (evC P nG X n)) ops (List.range ops.size) tm σ with
        | none => rw [he] at h; exact absurd rfl h
        | some r =>
          obtain ⟨tm', σ'⟩ := r
          obtain ⟨e1, a1⟩ := seqOps_nice hcf hyf _ _ σ tm' σ' hT he
          exact ⟨e1, fun b x hb hn => by simp only [a1 b x hb hn, R.add]⟩
      | true =>
        simp only [evC] at h ⊢
        cases he : drawRegion P nG (callW P nG X (evC P nG X n)) ops tm σ with
        | none => rw [he] at h; exact absurd rfl h
        | some r =>
          obtain ⟨tm', σ'⟩ := r
          obtain ⟨e1, a1⟩ := drawRegion_nice (T := T) hcf σ tm' σ' hT he
          exact ⟨e1, fun b x hb hn => by simp only [a1 b x hb hn, R.add]⟩
    | rangeFunc f ps assign body => exact rangeW_nice hcf σ hT h
    | _ => exact absurd rfl h

end
end --all
end Go.Ev

namespace Go.Ev
noncomputable section --all

section
variable {P : Program} {nG : Nat}

/-! ### What an operation looks at among the slots -/

theorem deed_congr {e e' : Operand → AV} (o : Oper) (h : ∀ x ∈ o.op.operands, e x = e' x) : deed P o e = deed P o e' := by
  obtain ⟨dst, op, type, pos, after, guard⟩ := o
  have pairs : ∀ ps : Array (Nat × Operand), (∀ x ∈ ps.map (·.2), e x = e' x) → (ps.toList.map fun p => (p.1, e p.2)) = (ps.toList.map fun p => (p.1, e' p.2)) := fun ps hp =>
    List.map_congr_left fun p hm => by
      obtain ⟨i, x⟩ := p
      simp only [hp x (Array.mem_map.2 ⟨(i, x), by simpa using hm, rfl⟩)]
  cases op <;> simp only [Op.operands] at h <;> simp only [deed]
  case build t ps => rw [pairs ps fun x hx => h x (by simpa using hx)]
  case buildSlice t n ps => rw [pairs ps fun x hx => h x (by simpa using hx)]
  case makeFunc fn first captured =>
    rw [List.map_congr_left (l := first.toList) fun x hx => h x (by simp at hx; simp [hx]), List.map_congr_left (l := captured.toList) fun x hx => h x (by simp at hx; simp [hx])]
  case call c =>
    have hargs : c.args.toList.map e = c.args.toList.map e' := List.map_congr_left fun x hx => h x (by simp at hx; simp [Call.operands, hx])
    simp only [hargs]
  case slice t x lo hi mx => cases lo <;> cases hi <;> cases mx <;> simp_all
  all_goals (first | rfl | (simp_all; done))

theorem callT_congr {e e' : Operand → AV} (c : Call) (h : ∀ x ∈ c.operands, e x = e' x) : callT P c e = callT P c e' := by
  have hargs : c.args.toList.map e = c.args.toList.map e' := List.map_congr_left fun x hx => h x (by simp at hx; simp [Call.operands, hx])
  unfold callT
  simp only [hargs]
  cases hc : c.callee with
  | value f => have hf : e f = e' f := h f (by simp [Call.operands, hc]); simp only [hf]
  | invoke r m => have hr : e r = e' r := h r (by simp [Call.operands, hc]); simp only [hr]
  | builtin b => rfl

theorem Tm.put_N (tm : Tm) (d : Option Nat) (v : AV) : (tm.put d v).N = tm.N := by
  cases d with
  | none => rfl
  | some d => simp only [Tm.put]; split <;> rfl

theorem Tm.get_put_other (tm : Tm) (d : Option Nat) (v : AV) (t : Nat) (h : d ≠ some t) : (tm.put d v).get t = tm.get t := by
  cases d with
  | none => rfl
  | some d =>
    have hne : Pos.ofSucc d ≠ Pos.ofSucc t := fun e => h (by rw [Pos.ofSucc_inj e])
    simp only [Tm.put]
    split
    · simp only [Tm.get, PTree.get_set_other _ _ _ _ hne]
    · rfl

theorem evA_put (tm : Tm) (d : Option Nat) (v : AV) (x : Operand) (h : ∀ t, d = some t → x ≠ .tmp t) : evA nG (tm.put d v) x = evA nG tm x := by
  cases x with
  | tmp t =>
    simp only [evA, Tm.put_N]
    rw [Tm.get_put_other]
    exact fun e => h t e rfl
  | _ => rfl

theorem Tm.put_comm (tm : Tm) {x y : Option Nat} (v u : AV) (h : ∀ d, x = some d → y ≠ some d) : (tm.put x v).put y u = (tm.put y u).put x v := by
  cases x with
  | none => rfl
  | some d =>
    cases y with
    | none => rfl
    | some e =>
      have hne : Pos.ofSucc d ≠ Pos.ofSucc e := fun q => h d rfl (by rw [Pos.ofSucc_inj q])
      simp only [Tm.put]
      cases h1 : Nat.blt d tm.N <;> cases h2 : Nat.blt e tm.N <;> simp only [h1, h2]
      rw [PTree.set_comm _ _ _ _ _ hne]

theorem wantA_put {ops : Array Oper} (o : Oper) (tm : Tm) (d : Option Nat) (v : AV) (h : ∀ t, d = some t → t ∉ o.looksAt ops) : wantA ops (tm.put d v) o = wantA ops tm o := by
  unfold wantA
  cases hg : o.guard with
  | none => rfl
  | some gw =>
    obtain ⟨g, want⟩ := gw
    simp only
    cases ho : ops[g]? with
    | none => rfl
    | some og =>
      simp only
      cases hd : og.dst with
      | none => rfl
      | some t =>
        have hne : d ≠ some t := fun e => h t e (by simp [Oper.looksAt, hg, ho, hd])
        simp only [Tm.put_N, Tm.get_put_other _ _ _ _ hne]

theorem looks_operand {ops : Array Oper} {o : Oper} {t : Nat} (h : t ∉ o.looksAt ops) {x : Operand} (hx : x ∈ o.op.operands) : x ≠ .tmp t := fun e => h (by
  subst e
  exact List.mem_append_left _ (List.mem_filterMap.2 ⟨.tmp t, by simpa using hx, rfl⟩))

/-! ### An operation of a region that draws, by what it looked at among the slots -/

inductive Stp where
  | keep
  | dir (d : Deed) (nid : Pos)
  | call (f : FuncId) (args : List AV) (loud : Bool)

def stpOf (P : Program) (nG : Nat) (ops : Array Oper) (base : Pos) (i : Nat) (tm : Tm) : Option (Oper × Stp) := match ops[i]? with
  | none => none
  | some o => match wantA ops tm o with
    | none => none
    | some false => some (o, .keep)
    | some true => match isCall o with
      | true => match o.op with
        | .call c => match callT P c (evA nG tm) with
          | .fn f args => some (o, .call f args (loudAt ops.toList (masks ops.toList) i ops.size))
          | _ => none
        | _ => none
      | false => some (o, .dir (deed P o (evA nG tm)) (addPos base i))

def Stp.run (cf : CallF) (lim : Nat) : Stp → St → Option (AV × St × FP)
  | .keep, σ => some (.tup [], σ, .nil)
  | .dir d nid, σ => match d.run nid σ with
    | some (v, σ', _) => some (v, σ', d.fp nid σ)
    | none => none
  | .call f args true, σ => match cf f args σ with
    | some (v, σ') => some (v, σ', ⟨[], [], true, true⟩)
    | none => none
  | .call f args false, σ => match cf f args { σ with lo := lim } with
    | some (v, σ') => some (v, { σ' with lo := σ.lo }, ⟨[], [], true, false⟩)
    | none => none

theorem drawOp_eq {cf : CallF} {ops : Array Oper} {base : Pos} {lim i : Nat} {tm : Tm} {σ : St} : drawOp P nG cf ops base lim i tm σ = match stpOf P nG ops base i tm with
    | none => none
    | some (o, s) => match s.run cf lim σ with
      | none => none
      | some (v, σ', fp) => some (tm.put o.dst v, σ', fp) := by
  unfold drawOp stpOf
  cases ho : ops[i]? with
  | none => rfl
  | some o =>
    simp only
    cases hw : wantA ops tm o with
    | none => rfl
    | some b =>
      cases b with
      | false => rfl
      | true =>
        simp only
        cases hc : isCall o with
        | false =>
          simp only [Stp.run]
          cases (deed P o (evA nG tm)).run (addPos base i) σ <;> rfl
        | true =>
          simp only
          cases hop : o.op with
          | call c =>
            simp only
            cases hct : callT P c (evA nG tm) with
            | fn f args =>
              simp only
              cases hl : loudAt ops.toList (masks ops.toList) i ops.size with
              | true =>
                simp only [Stp.run]
                cases cf f args σ <;> rfl
              | false =>
                simp only [Stp.run]
                cases cf f args { σ with lo := lim } <;> rfl
            | _ => rfl
          | _ => rfl

theorem stpOf_oper {ops : Array Oper} {base : Pos} {i : Nat} {tm : Tm} {o : Oper} {s : Stp} (h : stpOf P nG ops base i tm = some (o, s)) : ops[i]? = some o := by
  unfold stpOf at h
  split at h
  · cases h
  · rename_i o' ho
    rw [ho]
    split at h
    · cases h
    · cases h; rfl
    · split at h
      · split at h
        · split at h
          · cases h; rfl
          · cases h
        · cases h
      · cases h; rfl

theorem stpOf_put {ops : Array Oper} {base : Pos} {i : Nat} {tm : Tm} {oi : Oper} (hi : ops[i]? = some oi) (d : Option Nat) (v : AV) (h : ∀ t, d = some t → t ∉ oi.looksAt ops) :
    stpOf P nG ops base i (tm.put d v) = stpOf P nG ops base i tm := by
  unfold stpOf
  simp only [hi]
  rw [wantA_put oi tm d v h]
  have he : ∀ x ∈ oi.op.operands, evA nG (tm.put d v) x = evA nG tm x := fun x hx => evA_put tm d v x fun t ht => looks_operand (h t ht) hx
  rw [deed_congr oi he]
  split
  · rfl
  · rfl
  · split
    · split
      · rename_i c hop
        rw [callT_congr c (fun x hx => he x (by rw [hop]; exact hx))]
      · rfl
    · rfl

end
end --all
end Go.Ev

namespace Go.Ev
noncomputable section --all

/-! ### Two operations change places -/

theorem memP_iff {b : Pos} : ∀ {l : List Pos}, memP b l = true ↔ b ∈ l := by
  intro l
  induction l with
  | nil => simp [memP]
  | cons c l ih =>
    simp only [memP, List.mem_cons]
    cases h : b.beq c with
    | true => have := Pos.beq_iff.1 h; simp [this]
    | false =>
      have : b ≠ c := fun e => by rw [Pos.beq_iff.2 e] at h; cases h
      simp [this, ih]

theorem memP_false {b : Pos} {l : List Pos} (h : memP b l = false) : b ∉ l := fun e => by rw [memP_iff.2 e] at h; cases h

theorem disj_spec : ∀ {l m : List Pos}, disj l m = true → ∀ b ∈ l, b ∉ m := by
  intro l
  induction l with
  | nil => intro m _ b hb; cases hb
  | cons c l ih =>
    intro m h b hb
    simp only [disj] at h
    split at h
    · cases h
    · rename_i hc
      rcases List.mem_cons.1 hb with rfl | hb
      · exact memP_false hc
      · exact ih h b hb

def puts (us : List (Pos × ABlk)) (hp : PTree ABlk) : PTree ABlk := us.foldl (fun hp p => hp.set p.2 p.1) hp

theorem puts_cons (p : Pos × ABlk) (us : List (Pos × ABlk)) (hp : PTree ABlk) : puts (p :: us) hp = puts us (hp.set p.2 p.1) := rfl

theorem get_puts {b : Pos} : ∀ (us : List (Pos × ABlk)) (hp : PTree ABlk), (∀ p ∈ us, p.1 ≠ b) → (puts us hp).get b = hp.get b := by
  intro us
  induction us with
  | nil => intro hp _; rfl
  | cons p us ih =>
    intro hp h
    rw [puts_cons, ih _ (fun q hq => h q (List.mem_cons_of_mem _ hq)), PTree.get_set_other _ _ _ _ (h p List.mem_cons_self)]

theorem set_puts {b : Pos} {x : ABlk} : ∀ (us : List (Pos × ABlk)) (hp : PTree ABlk), (∀ p ∈ us, p.1 ≠ b) → puts us (hp.set x b) = (puts us hp).set x b := by
  intro us
  induction us with
  | nil => intro hp _; rfl
  | cons p us ih =>
    intro hp h
    rw [puts_cons, puts_cons, PTree.set_comm _ _ _ _ _ (Ne.symm (h p List.mem_cons_self)), ih _ (fun q hq => h q (List.mem_cons_of_mem _ hq))]

theorem puts_comm : ∀ (us vs : List (Pos × ABlk)) (hp : PTree ABlk), (∀ p ∈ us, ∀ q ∈ vs, p.1 ≠ q.1) → puts us (puts vs hp) = puts vs (puts us hp) := by
  intro us
  induction us with
  | nil => intro vs hp _; rfl
  | cons p us ih =>
    intro vs hp h
    rw [puts_cons, puts_cons, ← set_puts vs hp (fun q hq => Ne.symm (h p List.mem_cons_self q hq)), ih vs _ (fun q hq => h q (List.mem_cons_of_mem _ hq))]

theorem getAll_puts {us : List (Pos × ABlk)} {hp : PTree ABlk} : ∀ (rs : List Pos), (∀ b ∈ rs, ∀ p ∈ us, p.1 ≠ b) → getAll (puts us hp) rs = getAll hp rs := by
  intro rs
  induction rs with
  | nil => intro _; rfl
  | cons r rs ih =>
    intro h
    simp only [getAll]
    rw [get_puts us hp (fun p hp' => h r List.mem_cons_self p hp'), ih (fun b hb => h b (List.mem_cons_of_mem _ hb))]

theorem get_puts_ne {b : Pos} : ∀ (us : List (Pos × ABlk)) (hp : PTree ABlk), hp.get b ≠ none → (puts us hp).get b ≠ none := by
  intro us
  induction us with
  | nil => intro hp h; exact h
  | cons p us ih =>
    intro hp h
    rw [puts_cons]
    refine ih _ ?_
    rw [PTree.get_set]
    split
    · simp
    · exact h

theorem setAll_iff {lo : Nat} : ∀ (us : List (Pos × ABlk)) (hp hp' : PTree ABlk), setAll lo us hp = some hp' ↔ (∀ p ∈ us, lo ≤ p.1.toNat ∧ hp.get p.1 ≠ none) ∧ hp' = puts us hp := by
  intro us
  induction us with
  | nil => intro hp hp'; simp [setAll, puts, eq_comm]
  | cons p us ih =>
    intro hp hp'
    obtain ⟨b, x⟩ := p
    simp only [setAll, puts_cons]
    have h0 : ∀ q : Pos, hp.get b ≠ none → ((hp.set x b).get q ≠ none ↔ hp.get q ≠ none) := by
      intro q hb
      rw [PTree.get_set]
      split
      · rename_i e; subst e; simp [hb]
      · rfl
    cases hl : Nat.ble lo b.toNat with
    | false =>
      have : ¬ lo ≤ b.toNat := fun e => by rw [Nat.ble_eq_true_of_le e] at hl; cases hl
      simp [this]
    | true =>
      have hl := Nat.le_of_ble_eq_true hl
      cases hb : hp.get b with
      | none => simp [hb]
      | some y =>
        simp only
        rw [ih]
        have hb' : hp.get b ≠ none := by rw [hb]; simp
        constructor
        · rintro ⟨h1, h2⟩
          refine ⟨fun q hq => ?_, h2⟩
          rcases List.mem_cons.1 hq with rfl | hq
          · exact ⟨hl, hb'⟩
          · exact ⟨(h1 q hq).1, (h0 _ hb').1 (h1 q hq).2⟩
        · rintro ⟨h1, h2⟩
          exact ⟨fun q hq => ⟨(h1 q (List.mem_cons_of_mem _ hq)).1, (h0 _ hb').2 (h1 q (List.mem_cons_of_mem _ hq)).2⟩, h2⟩

/-- What a deed writes: all of it. -/
def MRes.all (r : MRes) (nid : Pos) : List (Pos × ABlk) := r.upd ++ (match r.nw with | some x => [(nid, x)] | none => [])

theorem puts_append (us vs : List (Pos × ABlk)) (hp : PTree ABlk) : puts (us ++ vs) hp = puts vs (puts us hp) := by simp [puts, List.foldl_append]

structure Does (rs : List Pos) (k : List ABlk → Option MRes) (nid : Pos) (σ : St) (v : AV) (σ' : St) (bs : List ABlk) (r : MRes) : Prop where
  got : getAll σ.hp rs = some bs
  res : k bs = some r
  upd : ∀ p ∈ r.upd, σ.lo ≤ p.1.toNat ∧ σ.hp.get p.1 ≠ none
  new : r.nw ≠ none → σ.hp.get nid = none
  val : v = r.val nid
  st : σ' = ⟨puts (r.all nid) σ.hp, σ.nx, σ.lo⟩

theorem run_does {rs : List Pos} {k : List ABlk → Option MRes} {nid : Pos} {σ σ' : St} {v : AV} {u : Bool} (h : (Deed.mem rs k).run nid σ = some (v, σ', u)) : ∃ bs r, Does rs k nid σ v σ' bs r ∧ u = r.nw.isSome := by
  simp only [Deed.run] at h
  split at h
  · cases h
  · rename_i bs hbs
    split at h
    · cases h
    · rename_i r hr
      split at h
      · cases h
      · rename_i hp hset
        obtain ⟨h1, rfl⟩ := (setAll_iff _ _ _).1 hset
        split at h
        · rename_i hnw
          simp only [Option.some.injEq, Prod.mk.injEq] at h
          obtain ⟨rfl, rfl, rfl⟩ := h
          exact ⟨bs, r, ⟨hbs, hr, h1, fun e => absurd hnw e, rfl, by simp [MRes.all, hnw]⟩, by simp [hnw]⟩
        · rename_i x hnw
          split at h
          · cases h
          · rename_i hnid
            simp only [Option.some.injEq, Prod.mk.injEq] at h
            obtain ⟨rfl, rfl, rfl⟩ := h
            refine ⟨bs, r, ⟨hbs, hr, h1, fun _ => ?_, rfl, by simp [MRes.all, hnw, puts_append, puts]⟩, by simp [hnw]⟩
            cases hn : σ.hp.get nid with
            | none => rfl
            | some y => exact absurd hnid (get_puts_ne _ _ (by rw [hn]; simp))

theorem does_run {rs : List Pos} {k : List ABlk → Option MRes} {nid : Pos} {σ σ' : St} {v : AV} {bs : List ABlk} {r : MRes} (h : Does rs k nid σ v σ' bs r) : (Deed.mem rs k).run nid σ = some (v, σ', r.nw.isSome) := by
  have hset := (setAll_iff r.upd σ.hp _).2 ⟨h.upd, rfl⟩
  simp only [Deed.run, h.got, h.res, hset]
  have hv := h.val
  have hs := h.st
  subst hv hs
  cases hnw : r.nw with
  | none => simp [MRes.all, hnw]
  | some x =>
    have hn := h.new (by rw [hnw]; simp)
    have : (puts r.upd σ.hp).get nid = none := by
      rw [get_puts]
      · exact hn
      · intro p hp e; exact (h.upd p hp).2 (by rw [e]; exact hn)
    simp only [this, MRes.all, hnw, puts_append]
    rfl

theorem does_fp {rs : List Pos} {k : List ABlk → Option MRes} {nid : Pos} {σ σ' : St} {v : AV} {bs : List ABlk} {r : MRes} (h : Does rs k nid σ v σ' bs r) :
    (Deed.mem rs k).fp nid σ = ⟨rs ++ r.upd.map (·.1), (r.all nid).map (·.1), false, false⟩ := by
  simp only [Deed.fp, h.got, h.res, MRes.all, List.map_append]
  cases r.nw <;> rfl

/-- The deed does likewise where what it looked at and its new number are as they were. -/
theorem Does.again {rs : List Pos} {k : List ABlk → Option MRes} {nid : Pos} {σ σ' σ2 : St} {v : AV} {bs : List ABlk} {r : MRes} (h : Does rs k nid σ v σ' bs r) (hlo : σ2.lo = σ.lo)
    (hrd : ∀ b, b ∈ rs ++ r.upd.map (·.1) → σ2.hp.get b = σ.hp.get b) (hn : r.nw ≠ none → σ2.hp.get nid = none) : Does rs k nid σ2 v ⟨puts (r.all nid) σ2.hp, σ2.nx, σ2.lo⟩ bs r := by
  refine ⟨?_, h.res, fun p hp => ?_, hn, h.val, rfl⟩
  · have : ∀ (l : List Pos), (∀ b ∈ l, σ2.hp.get b = σ.hp.get b) → getAll σ2.hp l = getAll σ.hp l := by
      intro l
      induction l with
      | nil => intro _; rfl
      | cons b l ih =>
        intro hl
        simp only [getAll]
        rw [hl b List.mem_cons_self, ih (fun c hc => hl c (List.mem_cons_of_mem _ hc))]
    rw [this rs (fun b hb => hrd b (List.mem_append_left _ hb))]
    exact h.got
  · obtain ⟨h1, h2⟩ := h.upd p hp
    refine ⟨by rw [hlo]; exact h1, ?_⟩
    rw [hrd p.1 (List.mem_append_right _ (List.mem_map.2 ⟨p, hp, rfl⟩))]
    exact h2

theorem swapDD {d1 d2 : Deed} {n1 n2 : Pos} {σ σ1 σ2 : St} {v1 v2 : AV} {u1 u2 : Bool} (h1 : d1.run n1 σ = some (v1, σ1, u1)) (h2 : d2.run n2 σ1 = some (v2, σ2, u2))
    (w1 : disj (d1.fp n1 σ).wr (d2.fp n2 σ1).rd = true) (w2 : disj (d2.fp n2 σ1).wr (d1.fp n1 σ).rd = true) (w3 : disj (d1.fp n1 σ).wr (d2.fp n2 σ1).wr = true) :
    ∃ σ', d2.run n2 σ = some (v2, σ', u2) ∧ d1.run n1 σ' = some (v1, σ2, u1) ∧ d2.fp n2 σ = d2.fp n2 σ1 ∧ d1.fp n1 σ' = d1.fp n1 σ := by
  cases d1 with
  | fail => cases h1
  | val x =>
    simp only [Deed.run, Option.some.injEq, Prod.mk.injEq] at h1
    obtain ⟨rfl, rfl, rfl⟩ := h1
    exact ⟨σ2, h2, rfl, rfl, rfl⟩
  | mem rs1 k1 =>
    cases d2 with
    | fail => cases h2
    | val x =>
      simp only [Deed.run, Option.some.injEq, Prod.mk.injEq] at h2
      obtain ⟨rfl, rfl, rfl⟩ := h2
      exact ⟨σ, rfl, h1, rfl, rfl⟩
    | mem rs2 k2 =>
      obtain ⟨bs1, r1, e1, rfl⟩ := run_does h1
      obtain ⟨bs2, r2, e2, rfl⟩ := run_does h2
      rw [does_fp e1, does_fp e2] at w1 w2 w3
      have w1 := disj_spec w1
      have w2 := disj_spec w2
      have w3 := disj_spec w3
      simp only at w1 w2 w3
      have s1 := e1.st
      subst s1
      have k1 : ∀ p ∈ r1.all n1, ∀ b ∈ rs2 ++ r2.upd.map (·.1), p.1 ≠ b := fun p hp b hb e => w1 p.1 (List.mem_map.2 ⟨p, hp, rfl⟩) (by rw [e]; exact hb)
      have k2 : ∀ p ∈ r2.all n2, ∀ b ∈ rs1 ++ r1.upd.map (·.1), p.1 ≠ b := fun p hp b hb e => w2 p.1 (List.mem_map.2 ⟨p, hp, rfl⟩) (by rw [e]; exact hb)
      have k3 : ∀ p ∈ r1.all n1, ∀ q ∈ r2.all n2, p.1 ≠ q.1 := fun p hp q hq e => w3 p.1 (List.mem_map.2 ⟨p, hp, rfl⟩) (List.mem_map.2 ⟨q, hq, e.symm⟩)
      have a2 := e2.again (σ2 := σ) rfl (fun b hb => (get_puts _ _ (fun p hp => k1 p hp b hb)).symm) (fun hn => by
        cases hg : σ.hp.get n2 with
        | none => rfl
        | some y => exact absurd (e2.new hn) (get_puts_ne _ _ (by rw [hg]; simp)))
      have a1 := e1.again (σ2 := ⟨puts (r2.all n2) σ.hp, σ.nx, σ.lo⟩) rfl (fun b hb => get_puts _ _ (fun p hp => k2 p hp b hb)) (fun hn => by
        simp only
        rw [get_puts]
        · exact e1.new hn
        · intro p hp e
          cases hnw : r1.nw with
          | none => exact hn hnw
          | some x => exact k3 (n1, x) (by simp [MRes.all, hnw]) p hp e.symm)
      refine ⟨_, does_run a2, ?_, by rw [does_fp a2, does_fp e2], by rw [does_fp a1, does_fp e1]⟩
      rw [does_run a1, e2.st]
      simp only
      rw [puts_comm _ _ _ k3]

end --all
end Go.Ev

namespace Go.Ev
noncomputable section --all

theorem dir_ro {d : Deed} {nid : Pos} {σ σ1 : St} {v : AV} {u : Bool} (h : d.run nid σ = some (v, σ1, u)) (hw : (d.fp nid σ).wr = []) :
    σ1 = σ ∧ ∀ σ2 : St, σ2.lo = σ.lo → (∀ b, b ∈ (d.fp nid σ).rd → σ2.hp.get b = σ.hp.get b) → d.run nid σ2 = some (v, σ2, u) ∧ d.fp nid σ2 = d.fp nid σ := by
  cases d with
  | fail => cases h
  | val x =>
    simp only [Deed.run, Option.some.injEq, Prod.mk.injEq] at h
    obtain ⟨rfl, rfl, rfl⟩ := h
    exact ⟨rfl, fun σ2 _ _ => ⟨rfl, rfl⟩⟩
  | mem rs k =>
    obtain ⟨bs, r, e, rfl⟩ := run_does h
    rw [does_fp e] at hw
    have hall : r.all nid = [] := by simpa using hw
    have hnw : r.nw = none := by
      cases hn : r.nw with
      | none => rfl
      | some x => simp [MRes.all, hn] at hall
    have hs := e.st
    rw [hall] at hs
    refine ⟨hs, fun σ2 hlo hrd => ?_⟩
    rw [does_fp e] at hrd ⊢
    have a := e.again (σ2 := σ2) hlo hrd (fun hn => absurd hnw hn)
    refine ⟨?_, does_fp a⟩
    rw [does_run a, hall]
    rfl

theorem dir_new {d : Deed} {nid b : Pos} {σ σ1 : St} {v : AV} {u : Bool} (h : d.run nid σ = some (v, σ1, u)) (hw : (d.fp nid σ).wr = [b]) (hb : b ∉ (d.fp nid σ).rd) :
    b = nid ∧ σ.hp.get nid = none ∧ ∃ x, σ1 = σ.add nid x ∧ ∀ σ2 : St, σ2.lo = σ.lo → (∀ c, c ∈ (d.fp nid σ).rd → σ2.hp.get c = σ.hp.get c) → σ2.hp.get nid = none → d.run nid σ2 = some (v, σ2.add nid x, u) ∧ d.fp nid σ2 = d.fp nid σ := by
  cases d with
  | fail => cases h
  | val x => cases hw
  | mem rs k =>
    obtain ⟨bs, r, e, rfl⟩ := run_does h
    rw [does_fp e] at hw hb
    simp only at hw hb
    have hu : r.upd = [] := by
      cases hu : r.upd with
      | nil => rfl
      | cons p us =>
        simp only [MRes.all, hu, List.cons_append, List.map_cons, List.cons.injEq] at hw
        exact absurd (List.mem_append_right rs (List.mem_map.2 ⟨p, by rw [hu]; exact List.mem_cons_self, hw.1⟩)) hb
    cases hnw : r.nw with
    | none => simp [MRes.all, hu, hnw] at hw
    | some x =>
      have hall : r.all nid = [(nid, x)] := by simp [MRes.all, hu, hnw]
      rw [hall] at hw
      simp only [List.map_cons, List.map_nil, List.cons.injEq, and_true] at hw
      have hs := e.st
      rw [hall] at hs
      refine ⟨hw.symm, e.new (by rw [hnw]; simp), x, hs, fun σ2 hlo hrd hn => ?_⟩
      rw [does_fp e] at hrd ⊢
      have a := e.again (σ2 := σ2) hlo hrd (fun _ => hn)
      refine ⟨?_, does_fp a⟩
      rw [does_run a, hall, hnw]
      rfl

theorem FP.none_spec {f : FP} (h : f.none = true) : f.rd = [] ∧ f.wr = [] := by
  unfold FP.none at h
  split at h
  · rename_i h1 h2; exact ⟨h1, h2⟩
  · cases h

section
variable {cf : CallF}

theorem all_blt {l : List Pos} {n : Nat} (h : l.all (fun b => Nat.blt b.toNat n) = true) : ∀ b ∈ l, b.toNat < n := fun b hb => by
  have := List.all_eq_true.1 h b hb
  exact Nat.le_of_ble_eq_true this

theorem Stp.swap (hcf : CfNice cf) {lim : Nat} {sj si : Stp} {σ σ1 σ2 : St} {vj vi : AV} {fj fi : FP} (hnx : lim ≤ σ.nx.toNat) (h1 : sj.run cf lim σ = some (vj, σ1, fj)) (h2 : si.run cf lim σ1 = some (vi, σ2, fi))
    (hc : compat lim fj fi = true) : ∃ σ', si.run cf lim σ = some (vi, σ', fi) ∧ sj.run cf lim σ' = some (vj, σ2, fj) := by
  cases sj with
  | keep =>
    simp only [Stp.run, Option.some.injEq, Prod.mk.injEq] at h1
    obtain ⟨rfl, rfl, rfl⟩ := h1
    exact ⟨σ2, h2, rfl⟩
  | dir dj nj =>
    simp only [Stp.run] at h1
    split at h1
    · rename_i v1 σ1' u1 hdj
      simp only [Option.some.injEq, Prod.mk.injEq] at h1
      obtain ⟨rfl, rfl, rfl⟩ := h1
      have cj : (dj.fp nj σ).cl = false ∧ (dj.fp nj σ).ld = false := by
        unfold Deed.fp
        split
        · split
          · split <;> exact ⟨rfl, rfl⟩
          · exact ⟨rfl, rfl⟩
        · exact ⟨rfl, rfl⟩
      cases si with
      | keep =>
        simp only [Stp.run, Option.some.injEq, Prod.mk.injEq] at h2
        obtain ⟨rfl, rfl, rfl⟩ := h2
        exact ⟨σ, rfl, by simp only [Stp.run, hdj]⟩
      | dir di ni =>
        simp only [Stp.run] at h2
        split at h2
        · rename_i v2 σ2' u2 hdi
          simp only [Option.some.injEq, Prod.mk.injEq] at h2
          obtain ⟨rfl, rfl, rfl⟩ := h2
          have ci : (di.fp ni σ1').cl = false ∧ (di.fp ni σ1').ld = false := by
            unfold Deed.fp
            split
            · split
              · split <;> exact ⟨rfl, rfl⟩
              · exact ⟨rfl, rfl⟩
            · exact ⟨rfl, rfl⟩
          unfold compat at hc
          rw [cj.1, cj.2, ci.1, ci.2] at hc
          simp only at hc
          split at hc
          · rename_i w1 w2 w3
            obtain ⟨σ', a1, a2, a3, a4⟩ := swapDD hdj hdi w1 w2 w3
            exact ⟨σ', by simp only [Stp.run, a1, a3], by simp only [Stp.run, a2, a4]⟩
          · cases hc
        · cases h2
      | call f args loud =>
        cases loud with
        | true =>
          simp only [Stp.run] at h2
          split at h2
          · rename_i v2 σ2' hcall
            simp only [Option.some.injEq, Prod.mk.injEq] at h2
            obtain ⟨rfl, rfl, rfl⟩ := h2
            unfold compat at hc
            rw [cj.1, cj.2] at hc
            simp only at hc
            obtain ⟨r1, r2⟩ := FP.none_spec hc
            obtain ⟨rfl, again⟩ := dir_ro hdj r2
            obtain ⟨e1, _⟩ := hcf 0 f args _ _ _ (Nat.zero_le _) hcall
            obtain ⟨b1, b2⟩ := again σ2' e1.lo (fun b hb => by rw [r1] at hb; cases hb)
            exact ⟨σ2', by simp only [Stp.run, hcall], by simp only [Stp.run, b1, b2]⟩
          · cases h2
        | false =>
          simp only [Stp.run] at h2
          split at h2
          · rename_i v2 σ2' hcall
            simp only [Option.some.injEq, Prod.mk.injEq] at h2
            obtain ⟨rfl, rfl, rfl⟩ := h2
            unfold compat at hc
            rw [cj.1, cj.2] at hc
            simp only at hc
            split at hc
            · rename_i hw
              obtain ⟨rfl, again⟩ := dir_ro hdj hw
              obtain ⟨e1, _⟩ := hcf lim f args { σ1' with lo := lim } _ _ hnx hcall
              have hlt := all_blt hc
              obtain ⟨b1, b2⟩ := again { σ2' with lo := σ1'.lo } rfl (fun b hb => e1.same b (hlt b hb) (hlt b hb))
              exact ⟨{ σ2' with lo := σ1'.lo }, by simp only [Stp.run, hcall], by simp only [Stp.run, b1, b2]⟩
            · cases hc
          · cases h2
    · cases h1
  | call f args loud =>
    cases si with
    | keep =>
      simp only [Stp.run, Option.some.injEq, Prod.mk.injEq] at h2
      obtain ⟨rfl, rfl, rfl⟩ := h2
      exact ⟨σ, rfl, h1⟩
    | call f2 args2 loud2 =>
      have c1 : fj.cl = true := by
        cases loud <;> simp only [Stp.run] at h1 <;> split at h1 <;> first | (simp only [Option.some.injEq, Prod.mk.injEq] at h1; exact (congrArg FP.cl h1.2.2).symm) | cases h1
      have c2 : fi.cl = true := by
        cases loud2 <;> simp only [Stp.run] at h2 <;> split at h2 <;> first | (simp only [Option.some.injEq, Prod.mk.injEq] at h2; exact (congrArg FP.cl h2.2.2).symm) | cases h2
      unfold compat at hc
      rw [c1, c2] at hc
      split at hc <;> cases hc
    | dir di ni =>
      simp only [Stp.run] at h2
      split at h2
      · rename_i v2 σ2' u2 hdi
        simp only [Option.some.injEq, Prod.mk.injEq] at h2
        obtain ⟨rfl, rfl, rfl⟩ := h2
        have ci : (di.fp ni σ1).cl = false ∧ (di.fp ni σ1).ld = false := by
          unfold Deed.fp
          split
          · split
            · split <;> exact ⟨rfl, rfl⟩
            · exact ⟨rfl, rfl⟩
          · exact ⟨rfl, rfl⟩
        cases loud with
        | true =>
          simp only [Stp.run] at h1
          split at h1
          · rename_i v1 σ1' hcall
            simp only [Option.some.injEq, Prod.mk.injEq] at h1
            obtain ⟨rfl, rfl, rfl⟩ := h1
            unfold compat at hc
            rw [ci.1] at hc
            simp only at hc
            obtain ⟨r1, r2⟩ := FP.none_spec hc
            obtain ⟨rfl, again⟩ := dir_ro hdi r2
            obtain ⟨e1, _⟩ := hcf 0 f args _ _ _ (Nat.zero_le _) hcall
            obtain ⟨b1, b2⟩ := again σ e1.lo.symm (fun b hb => by rw [r1] at hb; cases hb)
            exact ⟨σ, by simp only [Stp.run, b1, b2], by simp only [Stp.run, hcall]⟩
          · cases h1
        | false =>
          simp only [Stp.run] at h1
          split at h1
          · rename_i v1 σ1' hcall
            simp only [Option.some.injEq, Prod.mk.injEq] at h1
            obtain ⟨rfl, rfl, rfl⟩ := h1
            obtain ⟨e1, a1⟩ := hcf lim f args { σ with lo := lim } _ _ hnx hcall
            unfold compat at hc
            rw [ci.1, ci.2] at hc
            simp only at hc
            split at hc
            · rename_i hw
              obtain ⟨rfl, again⟩ := dir_ro hdi hw
              have hlt := all_blt hc
              obtain ⟨b1, b2⟩ := again σ rfl (fun b hb => (e1.same b (hlt b hb) (hlt b hb)).symm)
              exact ⟨σ, by simp only [Stp.run, b1, b2], by simp only [Stp.run, hcall]⟩
            · rename_i b hw
              split at hc
              · rename_i hb1 hb2
                have hblt : b.toNat < lim := Nat.le_of_ble_eq_true hb1
                obtain ⟨rfl, hn, x, rfl, again⟩ := dir_new hdi hw (memP_false hb2)
                have hlt := all_blt hc
                have hn' : σ.hp.get b = none := by
                  have := e1.same b hblt hblt
                  simp only at this hn
                  rw [← this]; exact hn
                obtain ⟨b1, b2⟩ := again σ rfl (fun c hc => (e1.same c (hlt c hc) (hlt c hc)).symm) hn'
                refine ⟨σ.add b x, by simp only [Stp.run, b1, b2], ?_⟩
                have a2 := a1 b x hblt hn'
                simp only [Stp.run]
                rw [show ({ σ.add b x with lo := lim } : St) = St.add b x { σ with lo := lim } from rfl, a2]
                rfl
              · cases hc
            · cases hc
          · cases h1
      · cases h2

end
end --all
end Go.Ev

namespace Go.Ev
noncomputable section --all

section
variable {P : Program} {nG : Nat} {base : Bd}

/-! ### A region that draws, in whatever order -/

theorem compatAll_iff {ms : List Nat} {lim j : Nat} {fj : FP} : ∀ {fps : List (Nat × FP)}, compatAll ms lim j fj fps = true ↔ ∀ p ∈ fps, Nat.testBit (msGet ms p.1) j = true ∨ compat lim fj p.2 = true := by
  intro fps
  induction fps with
  | nil => simp [compatAll]
  | cons p fps ih =>
    obtain ⟨i, fi⟩ := p
    simp only [compatAll, List.mem_cons, forall_eq_or_imp]
    change (match Nat.testBit (msGet ms i) j with | true => compatAll ms lim j fj fps | false => match compat lim fj fi with | true => compatAll ms lim j fj fps | false => false) = true ↔ _
    cases h : Nat.testBit (msGet ms i) j with
    | true => simp [ih]
    | false =>
      cases h2 : compat lim fj fi with
      | true => simp [ih]
      | false => simp

theorem pairsOk_cons {ms : List Nat} {lim j : Nat} {fj : FP} {fps : List (Nat × FP)} : pairsOk ms lim ((j, fj) :: fps) = true ↔ compatAll ms lim j fj fps = true ∧ pairsOk ms lim fps = true := by
  simp only [pairsOk]
  cases compatAll ms lim j fj fps <;> simp

theorem drawOp_ext {cf : CallF} (hcf : CfNice cf) {ops : Array Oper} {b0 : Pos} {lim i : Nat} {tm tm1 : Tm} {σ σ1 : St} {fp : FP} (hlo : σ.lo ≤ lim) (h : drawOp P nG cf ops b0 lim i tm σ = some (tm1, σ1, fp)) : σ1.lo = σ.lo ∧ σ.nx.toNat ≤ σ1.nx.toNat :=
  let e := (drawOp_nice (T := 0) hcf (Nat.zero_le _) (Nat.zero_le _) hlo h).1
  ⟨e.lo, e.nx⟩

theorem bring {cf : CallF} (hcf : CfNice cf) {ops : Array Oper} {b0 : Pos} {lim : Nat} {ms : List Nat} {i : Nat} {l2 : List Nat} {tmf : Tm} {σf : St} : ∀ (l1 : List Nat) (tm : Tm) (σ : St) (fps : List (Nat × FP)), lim ≤ σ.nx.toNat → σ.lo ≤ lim →
    drawOps P nG cf ops b0 lim (l1 ++ i :: l2) tm σ = some (tmf, σf, fps) → (∀ j ∈ l1, Nat.testBit (msGet ms i) j = false ∧ apartAt ops ms j i = true) → pairsOk ms lim fps = true →
    ∃ tm1 σ1 fi fps', drawOp P nG cf ops b0 lim i tm σ = some (tm1, σ1, fi) ∧ drawOps P nG cf ops b0 lim (l1 ++ l2) tm1 σ1 = some (tmf, σf, fps') ∧ pairsOk ms lim fps' = true ∧ (i, fi) ∈ fps ∧ ∀ p ∈ fps', p ∈ fps := by
  intro l1
  induction l1 with
  | nil =>
    intro tm σ fps hnx hlo h hj hp
    simp only [List.nil_append, drawOps] at h ⊢
    split at h
    · cases h
    · rename_i tm1 σ1 fi hd
      split at h
      · cases h
      · rename_i tm2 σ2 fps2 hds
        simp only [Option.some.injEq, Prod.mk.injEq] at h
        obtain ⟨rfl, rfl, rfl⟩ := h
        exact ⟨tm1, σ1, fi, fps2, hd, hds, (pairsOk_cons.1 hp).2, List.mem_cons_self, fun p hp => List.mem_cons_of_mem _ hp⟩
  | cons j l1 ih =>
    intro tm σ fps hnx hlo h hj hp
    simp only [List.cons_append, drawOps] at h ⊢
    split at h
    · cases h
    · rename_i tmj σj fj hdj
      split at h
      · cases h
      · rename_i tm2 σ2 fps0 hds
        simp only [Option.some.injEq, Prod.mk.injEq] at h
        obtain ⟨rfl, rfl, rfl⟩ := h
        obtain ⟨hca, hp0⟩ := pairsOk_cons.1 hp
        obtain ⟨el, en⟩ := drawOp_ext hcf hlo hdj
        obtain ⟨tm', σ', fi, fps0', hdi, hds', hp', hmem, hsub⟩ := ih tmj σj fps0 (Nat.le_trans hnx en) (by rw [el]; exact hlo) hds (fun q hq => hj q (List.mem_cons_of_mem _ hq)) hp0
        obtain ⟨hbit, hap⟩ := hj j List.mem_cons_self
        have hcompat : compat lim fj fi = true := by
          rcases compatAll_iff.1 hca (i, fi) hmem with h1 | h1
          · rw [hbit] at h1; cases h1
          · exact h1
        rw [drawOp_eq] at hdj hdi
        split at hdj
        · cases hdj
        · rename_i oj sj hsj
          split at hdj
          · cases hdj
          · rename_i vj σj' fj' hrj
            simp only [Option.some.injEq, Prod.mk.injEq] at hdj
            obtain ⟨rfl, rfl, rfl⟩ := hdj
            split at hdi
            · cases hdi
            · rename_i oi si hsi
              split at hdi
              · cases hdi
              · rename_i vi σi' fi' hri
                simp only [Option.some.injEq, Prod.mk.injEq] at hdi
                obtain ⟨rfl, rfl, rfl⟩ := hdi
                have hoj := stpOf_oper hsj
                have hoi := stpOf_oper hsi
                have hapart : oj.apart ops oi = true := by
                  unfold apartAt at hap
                  rw [hbit] at hap
                  simpa only [hoj, hoi] using hap
                obtain ⟨p1, p2, p3⟩ := Oper.apart_spec hapart
                rw [stpOf_put hoi oj.dst vj p1] at hsi
                obtain ⟨σ'', a1, a2⟩ := Stp.swap hcf hnx hrj hri hcompat
                have hdi' : drawOp P nG cf ops b0 lim i tm σ = some (tm.put oi.dst vi, σ'', fi') := by
                  rw [drawOp_eq, hsi]; simp only [a1]
                have hsj' := (stpOf_put hoj (P := P) (nG := nG) (base := b0) (tm := tm) oi.dst vi p3).trans hsj
                have hdj' : drawOp P nG cf ops b0 lim j (tm.put oi.dst vi) σ'' = some ((tm.put oj.dst vj).put oi.dst vi, σi', fj') := by
                  rw [drawOp_eq, hsj']; simp only [a2]
                  rw [Tm.put_comm tm vj vi p2]
                refine ⟨tm.put oi.dst vi, σ'', fi', (j, fj') :: fps0', hdi', ?_, ?_, List.mem_cons_of_mem _ hmem, ?_⟩
                · simp only [hdj', hds']
                · exact pairsOk_cons.2 ⟨compatAll_iff.2 (fun p hp => compatAll_iff.1 hca p (hsub p hp)), hp'⟩
                · intro p hp
                  rcases List.mem_cons.1 hp with rfl | hp
                  · exact List.mem_cons_self
                  · exact List.mem_cons_of_mem _ (hsub p hp)

theorem CallTo.mono {F : Fence} {k : Nat} {f : FuncId} {vs : Array Value} {w : World} {R R' : Ending → World → Prop} (h : CallTo F k P f vs w R) (hr : ∀ e w', R e w' → R' e w') : CallTo F k P f vs w R' := by
  rcases h with ⟨v', h1, h2⟩ | ⟨h1, h2⟩
  · exact .inl ⟨v', h1, hr _ _ h2⟩
  · exact .inr ⟨h1, h2.mono hr⟩

theorem CfOk.quiet {cf : CallF} (hcf : CfOk P nG base cf) (lim : Nat) : CfOk P nG base (fun f args σ => match cf f args { σ with lo := lim } with
    | some (v, σ') => some (v, { σ' with lo := σ.lo })
    | none => none) := by
  intro f args σ v σ' h F k ρ w vs hF hg hR hv
  simp only at h
  split at h
  · rename_i v2 σ2 hc
    simp only [Option.some.injEq, Prod.mk.injEq] at h
    obtain ⟨rfl, rfl⟩ := h
    refine (hcf f args _ _ _ hc F k ρ w vs hF hg (hR.lom lim) hv).mono ?_
    rintro e w' ⟨v', ρ', h1, h2, h3, h4, h5⟩
    exact ⟨v', ρ', h1, h2, h3, h4.lom σ.lo, h5⟩
  · cases h

theorem yf_none : YfOk P nG base (fun _ _ _ => none) := fun _ _ _ _ _ h => by cases h

theorem drawOp_wp {cf : CallF} (hcf : CfOk P nG base cf) {ops : Array Oper} {b0 : Pos} {lim i : Nat} {tm tm1 : Tm} {σ σ1 : St} {fp : FP} {F : Fence} {k : Nat} {ρ : Rho} {w : World} {a : Act} {K : Act → World → Prop} {Q : Exit → Act → World → Prop}
    (h : drawOp P nG cf ops b0 lim i tm σ = some (tm1, σ1, fp)) (hF : Wd F) (hg : Glob nG ρ) (hR : Rel base ρ σ w) (ht : TR ρ tm a.tmps) (hK : Then base ρ w a tm1 σ1 K) : wpOpIn F k P ops Q i K a w := by
  unfold drawOp at h
  unfold wpOpIn
  split at h
  · cases h
  · rename_i o ho
    simp only [ho]
    split at h
    · cases h
    · rename_i hw
      simp only [Option.some.injEq, Prod.mk.injEq] at h
      obtain ⟨rfl, rfl, rfl⟩ := h
      rw [wantA_ok hw ht]
      simp only [Bool.false_eq_true, if_false]
      exact ⟨fun f _ => hF.fn f, hK _ w ρ (Act.put_defers' _ _ _) (ht.putO o.dst (VR.unwanted ρ)) (Rho.le_refl _) hR (Bel.refl _ _)⟩
    · rename_i hw
      rw [wantA_ok hw ht]
      simp only [if_true]
      have goes : ∀ v, tm1 = tm.put o.dst v → Goes base ρ w o a v σ1 K := by
        intro v hv w' ρ' v' h1 h2 h3 h4
        subst hv
        exact hK _ w' ρ' (Act.put_defers' _ _ _) ((ht.mono h2).putO o.dst h1) h2 h3 h4
      split at h
      · rename_i hc
        split at h
        · rename_i c hop
          have hnb : ∀ b, c.callee ≠ .builtin b := by
            intro b hb
            simp [isCall, hop, hb] at hc
          split at h
          · rename_i f args hct
            split at h
            · split at h
              · rename_i v σ2 hcall
                simp only [Option.some.injEq, Prod.mk.injEq] at h
                obtain ⟨rfl, rfl, rfl⟩ := h
                refine doOp_ok (nid := .xH) (v := v) (σ' := σ2) (u := false) hcf yf_none ?_ hF hg hR ht (goes v rfl)
                unfold doOp
                simp only [hop]
                cases hcal : c.callee with
                | builtin b => exact absurd hcal (hnb b)
                | _ => simp only [hct, hcall]
              · cases h
            · split at h
              · rename_i v σ2 hcall
                simp only [Option.some.injEq, Prod.mk.injEq] at h
                obtain ⟨rfl, rfl, rfl⟩ := h
                refine doOp_ok (nid := .xH) (v := v) (σ' := { σ2 with lo := σ.lo }) (u := false) (hcf.quiet lim) yf_none ?_ hF hg hR ht (goes v rfl)
                unfold doOp
                simp only [hop]
                cases hcal : c.callee with
                | builtin b => exact absurd hcal (hnb b)
                | _ => simp only [hct, hcall]
              · cases h
          · cases h
        · cases h
      · rename_i hc
        split at h
        · rename_i v σ2 u hd
          simp only [Option.some.injEq, Prod.mk.injEq] at h
          obtain ⟨rfl, rfl, rfl⟩ := h
          exact deed_wp hd hF hg hR ht (goes v rfl)
        · cases h

/-! #### The checks read -/

theorem slotBits_spec {t : Nat} : ∀ (l : List Operand) (m : Nat), Nat.testBit (slotBits l m) t = true ↔ Nat.testBit m t = true ∨ Operand.tmp t ∈ l := by
  intro l
  induction l with
  | nil => intro m; simp [slotBits]
  | cons x l ih =>
    intro m
    cases x with
    | tmp t' =>
      simp only [slotBits, ih, List.mem_cons, Operand.tmp.injEq]
      have : Nat.testBit (Nat.lor m (2 ^ t')) t = true ↔ Nat.testBit m t = true ∨ t = t' := by
        rw [show Nat.lor m (2 ^ t') = m ||| 2 ^ t' from rfl, Nat.testBit_or, Nat.testBit_two_pow, Bool.or_eq_true, decide_eq_true_eq]
        exact or_congr Iff.rfl eq_comm
      rw [this, or_assoc]
    | _ => simp [slotBits, ih]

theorem lookBits_spec {ops : Array Oper} {o : Oper} {t : Nat} : Nat.testBit (lookBits ops o) t = true ↔ t ∈ o.looksAt ops := by
  have h0 : Nat.testBit (slotBits o.op.operands.toList 0) t = true ↔ t ∈ (o.op.operands.toList.filterMap fun | .tmp t => some t | _ => none) := by
    rw [slotBits_spec, List.mem_filterMap]
    simp only [Nat.zero_testBit, Bool.false_eq_true, false_or]
    constructor
    · intro h; exact ⟨_, h, rfl⟩
    · rintro ⟨x, hx, h⟩
      cases x with
      | tmp t' => simp only [Option.some.injEq] at h; rw [← h]; exact hx
      | _ => cases h
  unfold lookBits guardBits Oper.looksAt
  rw [List.mem_append]
  refine Iff.trans ?_ (or_congr h0 Iff.rfl)
  generalize slotBits o.op.operands.toList 0 = m
  cases o.guard with
  | none => simp
  | some p =>
    obtain ⟨j, b⟩ := p
    simp only
    cases ops[j]? with
    | none => simp
    | some oj =>
      simp only [Option.bind_some]
      cases oj.dst with
      | none => simp
      | some t' =>
        simp only [Option.toList_some, List.mem_singleton]
        rw [show Nat.lor m (2 ^ t') = m ||| 2 ^ t' from rfl, Nat.testBit_or, Nat.testBit_two_pow, Bool.or_eq_true, decide_eq_true_eq]
        exact or_congr Iff.rfl eq_comm

theorem apartM_spec {ops : Array Oper} {x y : Oper} (h : apartM x.dst (lookBits ops x) y.dst (lookBits ops y) = true) : x.apart ops y = true := by
  have lk : ∀ (o : Oper) (t : Nat), Nat.testBit (lookBits ops o) t = (o.looksAt ops).contains t := by
    intro o t
    rw [Bool.eq_iff_iff, lookBits_spec]
    simp
  unfold apartM at h
  unfold Oper.apart
  rw [Bool.and_eq_true]
  split at h
  · cases h
  · rename_i h1
    refine ⟨?_, ?_⟩
    · split at h1
      · rename_i hd; rw [hd]
      · rename_i t hd
        rw [hd]
        split at h1
        · cases h1
        · rename_i h2
          rw [lk] at h2
          simp only [h2, Bool.not_false, Bool.true_and]
          split at h1
          · rename_i hd'; rw [hd']; rfl
          · rename_i t' hd'
            rw [hd']
            split at h1
            · cases h1
            · rename_i h3
              rw [beq_iff] at h3
              simp at h3
              simp [Ne.symm h3]
    · split at h
      · rename_i hd; rw [hd]
      · rename_i t hd
        rw [hd]
        split at h
        · cases h
        · rename_i h2
          rw [lk] at h2
          show (!(x.looksAt ops).contains t) = true
          rw [h2]
          rfl

theorem prevOk_spec {m : Nat} {d : Option Nat} {k : Nat} : ∀ {l : List (Nat × Option Nat × Nat)}, prevOk m d k l = true → ∀ p ∈ l, Nat.testBit m p.1 = true ∨ apartM p.2.1 p.2.2 d k = true := by
  intro l
  induction l with
  | nil => intro _ p hp; cases hp
  | cons q l ih =>
    intro h p hp
    obtain ⟨j, d', k'⟩ := q
    simp only [prevOk] at h
    split at h
    · rename_i hb
      rcases List.mem_cons.1 hp with rfl | hp
      · exact .inl hb
      · exact ih h p hp
    · split at h
      · rename_i hb
        rcases List.mem_cons.1 hp with rfl | hp
        · exact .inr hb
        · exact ih h p hp
      · cases h

/-- What the walk over the order shows. -/
theorem goOk_spec {ops : Array Oper} {ms : List Nat} {full : Nat} : ∀ (l : List Nat) (done : Nat) (prev : List (Nat × Option Nat × Nat)), goOk ops ms full l done prev = true →
    (∀ p ∈ prev, ∃ o, ops[p.1]? = some o ∧ p.2 = (o.dst, lookBits ops o)) →
    l.Nodup ∧ (∀ i ∈ l, i < ops.size ∧ Nat.testBit done i = false) ∧ (∀ i, Nat.testBit full i = true ↔ Nat.testBit done i = true ∨ i ∈ l) ∧
    l.Pairwise (fun j i => apartAt ops ms j i = true) ∧ l.Pairwise (fun i j => Nat.testBit (msGet ms i) j = false) ∧ (∀ i ∈ l, Nat.testBit (msGet ms i) i = false) ∧
    (∀ p ∈ prev, ∀ i ∈ l, apartAt ops ms p.1 i = true) := by
  intro l
  induction l with
  | nil =>
    intro done prev h hp
    simp only [goOk] at h
    have := Nat.eq_of_beq_eq_true h
    subst this
    exact ⟨List.nodup_nil, (fun i hi => by cases hi), (fun i => by simp), .nil, .nil, (fun i hi => by cases hi), (fun p _ i hi => by cases hi)⟩
  | cons i l ih =>
    intro done prev h hp
    simp only [goOk] at h
    split at h
    · cases h
    · rename_i o ho
      split at h
      · rename_i hb hsub hprev
        have hi : i < ops.size := (Array.getElem?_eq_some_iff.1 ho).1
        have bit : ∀ j, Nat.testBit (Nat.lor done (2 ^ i)) j = true ↔ Nat.testBit done j = true ∨ j = i := by
          intro j
          rw [show Nat.lor done (2 ^ i) = done ||| 2 ^ i from rfl, Nat.testBit_or, Nat.testBit_two_pow, Bool.or_eq_true, decide_eq_true_eq]
          exact or_congr Iff.rfl eq_comm
        have hsub' : ∀ j, Nat.testBit (msGet ms i) j = true → Nat.testBit done j = true := by
          intro j hj
          have e := Nat.eq_of_beq_eq_true hsub
          rw [show Nat.land (msGet ms i) done = msGet ms i &&& done from rfl] at e
          rw [← e, Nat.testBit_and] at hj
          simp at hj
          exact hj.2
        obtain ⟨a1, a2, a3, a4, a5, a6, a7⟩ := ih _ _ h (fun p hp' => by
          rcases List.mem_cons.1 hp' with rfl | hp'
          · exact ⟨o, ho, rfl⟩
          · exact hp p hp')
        have notin : ∀ j ∈ l, Nat.testBit done j = false ∧ j ≠ i := by
          intro j hj
          have := (a2 j hj).2
          have h1 : ¬ (Nat.testBit done j = true ∨ j = i) := fun e => by rw [(bit j).2 e] at this; cases this
          refine ⟨?_, fun e => h1 (.inr e)⟩
          cases hq : Nat.testBit done j with
          | false => rfl
          | true => exact absurd (.inl hq) h1
        refine ⟨List.nodup_cons.2 ⟨fun e => (notin i e).2 rfl, a1⟩, ?_, ?_, ?_, ?_, ?_, ?_⟩
        · intro j hj
          rcases List.mem_cons.1 hj with rfl | hj
          · exact ⟨hi, hb⟩
          · exact ⟨(a2 j hj).1, (notin j hj).1⟩
        · intro j
          rw [a3, bit, List.mem_cons, or_assoc]
        · exact List.Pairwise.cons (fun j hj => a7 _ List.mem_cons_self j hj) a4
        · refine List.Pairwise.cons (fun j hj => ?_) a5
          cases hq : Nat.testBit (msGet ms i) j with
          | false => rfl
          | true => have := hsub' j hq; rw [(notin j hj).1] at this; cases this
        · intro j hj
          rcases List.mem_cons.1 hj with rfl | hj
          · cases hq : Nat.testBit (msGet ms j) j with
            | false => rfl
            | true => have := hsub' j hq; rw [hb] at this; cases this
          · exact a6 j hj
        · intro p hp' j hj
          rcases List.mem_cons.1 hj with rfl | hj
          · obtain ⟨o', ho', he⟩ := hp p hp'
            unfold apartAt
            rcases prevOk_spec hprev p hp' with h1 | h1
            · rw [h1]
            · rw [he] at h1
              have := apartM_spec h1
              cases Nat.testBit (msGet ms j) p.1 with
              | true => rfl
              | false => simp only [ho', ho, this]
          · exact a7 p (List.mem_cons_of_mem _ hp') j hj
      · cases h

/-! #### Masks -/

def mkMask (acc : List Nat) (o : Oper) : Nat := o.after.toList.foldl (fun s e => match Region.binds .any e with
  | true => Nat.lor (Nat.lor s (2 ^ e.on)) (match acc[e.on]? with | some m => m | none => 0)
  | false => s) 0

theorem mkMask_spec {acc : List Nat} {o : Oper} {j : Nat} : Nat.testBit (mkMask acc o) j = true ↔ ∃ e ∈ o.after, Region.binds .any e = true ∧ (e.on = j ∨ Nat.testBit (msGet acc e.on) j = true) := by
  have key : ∀ (l : List Edge) (s : Nat), Nat.testBit (l.foldl (fun s e => match Region.binds .any e with
      | true => Nat.lor (Nat.lor s (2 ^ e.on)) (match acc[e.on]? with | some m => m | none => 0)
      | false => s) s) j = true ↔ Nat.testBit s j = true ∨ ∃ e ∈ l, Region.binds .any e = true ∧ (e.on = j ∨ Nat.testBit (msGet acc e.on) j = true) := by
    intro l
    induction l with
    | nil => intro s; simp
    | cons e l ih =>
      intro s
      rw [List.foldl_cons, ih]
      cases hb : Region.binds .any e with
      | false => simp [hb]
      | true =>
        have h1 : Nat.testBit (Nat.lor (Nat.lor s (2 ^ e.on)) (match acc[e.on]? with | some m => m | none => 0)) j = true ↔ Nat.testBit s j = true ∨ (e.on = j ∨ Nat.testBit (msGet acc e.on) j = true) := by
          rw [show Nat.lor (Nat.lor s (2 ^ e.on)) (match acc[e.on]? with | some m => m | none => 0) = (s ||| 2 ^ e.on) ||| msGet acc e.on from rfl, Nat.testBit_or, Nat.testBit_or, Nat.testBit_two_pow]
          simp [or_assoc]
        simp only [h1, List.mem_cons, exists_eq_or_imp, hb, true_and, or_assoc]
  have := key o.after.toList 0
  simp only [Nat.zero_testBit, Bool.false_eq_true, false_or, Array.mem_toList_iff] at this
  exact this

theorem masks_get (l : List Oper) : ∀ (pre : List Oper), (l.foldl (fun acc o => acc ++ [mkMask acc o]) (masks pre)) = masks (pre ++ l) := by
  intro pre
  unfold masks
  rw [List.foldl_append]
  rfl

theorem masks_snoc (l : List Oper) (o : Oper) : masks (l ++ [o]) = masks l ++ [mkMask (masks l) o] := by
  unfold masks
  rw [List.foldl_append]
  rfl

theorem masks_length (l : List Oper) : (masks l).length = l.length := by
  rw [← List.reverse_reverse l]
  induction l.reverse with
  | nil => rfl
  | cons o l ih => rw [List.reverse_cons, masks_snoc]; simp [ih]

theorem masks_take (l : List Oper) (n : Nat) : ∃ r, masks l = masks (l.take n) ++ r := by
  have : ∀ (b a : List Oper), ∃ r, masks (a ++ b) = masks a ++ r := by
    intro b
    induction b with
    | nil => intro a; exact ⟨[], by simp⟩
    | cons o b ih =>
      intro a
      obtain ⟨r, hr⟩ := ih (a ++ [o])
      refine ⟨[mkMask (masks a) o] ++ r, ?_⟩
      rw [show a ++ o :: b = (a ++ [o]) ++ b by simp, hr, masks_snoc]
      simp
  obtain ⟨r, hr⟩ := this (l.drop n) (l.take n)
  exact ⟨r, by rw [← hr, List.take_append_drop]⟩

theorem msGet_mask {l : List Oper} {i : Nat} {o : Oper} (ho : l[i]? = some o) : msGet (masks l) i = mkMask (masks (l.take i)) o := by
  obtain ⟨hi, he⟩ := List.getElem?_eq_some_iff.1 ho
  obtain ⟨r, hr⟩ := masks_take l (i + 1)
  have e1 : l.take (i + 1) = l.take i ++ [o] := by rw [List.take_succ_eq_append_getElem hi, he]
  rw [e1, masks_snoc] at hr
  unfold msGet
  rw [hr]
  have hl : (masks (l.take i)).length = i := by rw [masks_length]; simp; omega
  rw [List.append_assoc, List.getElem?_append_right (by omega)]
  simp [hl]

theorem msGet_take {l : List Oper} {i j : Nat} (hj : j < i) (hi : i ≤ l.length) : msGet (masks (l.take i)) j = msGet (masks l) j := by
  obtain ⟨r, hr⟩ := masks_take l i
  unfold msGet
  rw [hr, List.getElem?_append_left (by rw [masks_length]; simp; omega)]

theorem backAt_spec {i : Nat} : ∀ {l : List Edge}, backAt i l = true → ∀ e ∈ l, Region.binds .any e = true → e.on < i := by
  intro l
  induction l with
  | nil => intro _ e he; cases he
  | cons d l ih =>
    intro h e he hb
    simp only [backAt] at h
    split at h
    · rename_i hd
      rcases List.mem_cons.1 he with rfl | he
      · rw [hd] at hb; cases hb
      · exact ih h e he hb
    · split at h
      · rename_i hlt
        rcases List.mem_cons.1 he with rfl | he
        · exact Nat.le_of_ble_eq_true hlt
        · exact ih h e he hb
      · cases h

theorem backAll_spec : ∀ {l : List Oper} {k : Nat}, backAll k l = true → ∀ (i : Nat) (o : Oper), l[i]? = some o → ∀ e ∈ o.after, Region.binds .any e = true → e.on < k + i := by
  intro l
  induction l with
  | nil => intro k _ i o h; simp at h
  | cons d l ih =>
    intro k h i o ho e he hb
    simp only [backAll] at h
    split at h
    · rename_i hd
      cases i with
      | zero =>
        simp only [List.getElem?_cons_zero, Option.some.injEq] at ho
        subst ho
        exact backAt_spec hd e (by simpa using he) hb
      | succ i =>
        have := ih h i o (by simpa using ho) e he hb
        omega
    · cases h

/-- What is known of the masks. -/
structure MasksOk (ops : Array Oper) (ms : List Nat) : Prop where
  spec : ∀ {i : Nat} {o : Oper}, ops[i]? = some o →
    (∀ e ∈ o.after, Region.binds .any e = true → e.on < ops.size ∧ Nat.testBit (msGet ms i) e.on = true) ∧
    (∀ j, j < ops.size → Nat.testBit (msGet ms i) j = true → ∃ e ∈ o.after, Region.binds .any e = true ∧ (e.on = j ∨ Nat.testBit (msGet ms e.on) j = true))

theorem masks_ok {ops : Array Oper} (h : backAll 0 ops.toList = true) : MasksOk ops (masks ops.toList) := by
  refine ⟨fun {i o} ho => ?_⟩
  have hi : i < ops.size := (Array.getElem?_eq_some_iff.1 ho).1
  have ho' : ops.toList[i]? = some o := by simpa using ho
  have hback := fun e he hb => backAll_spec h i o ho' e he hb
  simp only [Nat.zero_add] at hback
  rw [msGet_mask ho']
  refine ⟨fun e he hb => ⟨Nat.lt_trans (hback e he hb) hi, mkMask_spec.2 ⟨e, he, hb, .inl rfl⟩⟩, fun j _ hj => ?_⟩
  obtain ⟨e, he, hb, h1⟩ := mkMask_spec.1 hj
  refine ⟨e, he, hb, ?_⟩
  rw [msGet_take (hback e he hb) (by simp; omega)] at h1
  exact h1

end
end --all
end Go.Ev

namespace Go.Ev
noncomputable section --all

section
variable {P : Program} {nG : Nat} {base : Bd}

theorem draw_any {cf : CallF} (hn : CfNice cf) (hcf : CfOk P nG base cf) {ops : Array Oper} {ms : List Nat} (hms : MasksOk ops ms) {b0 : Pos} {lim : Nat} {F : Fence} {k : Nat} (hF : Wd F) {Q : Exit → Act → World → Prop} {tmf : Tm} {σf : St} :
    ∀ (fuel : Nat) (listed : Array Bool) (l : List Nat) (tm : Tm) (σ : St) (fps : List (Nat × FP)) (ρ : Rho) (w : World) (a : Act),
      fuel = l.length → listed.size = ops.size → (∀ i, i ∈ l ↔ i < ops.size ∧ listed.getD i true = false) → l.Nodup →
      (∀ i, i < ops.size → listed.getD i true = true → ∀ j, j < ops.size → Nat.testBit (msGet ms i) j = true → listed.getD j true = true) →
      lim ≤ σ.nx.toNat → σ.lo ≤ lim → drawOps P nG cf ops b0 lim l tm σ = some (tmf, σf, fps) → pairsOk ms lim fps = true →
      l.Pairwise (fun j i => apartAt ops ms j i = true) → l.Pairwise (fun i j => Nat.testBit (msGet ms i) j = false) → (∀ i ∈ l, Nat.testBit (msGet ms i) i = false) →
      Glob nG ρ → Rel base ρ σ w → TR ρ tm a.tmps → Then base ρ w a tmf σf (Q .normal) → wpAnyIn F k P .any ops Q fuel listed a w := by
  intro fuel
  induction fuel with
  | zero =>
    intro listed l tm σ fps ρ w a hf hsz hmem hnd hcl hnx hlo h hp hap htp htp2 hg hR ht hK
    have hl : l = [] := List.length_eq_zero_iff.1 hf.symm
    subst hl
    simp only [drawOps, Option.some.injEq, Prod.mk.injEq] at h
    obtain ⟨rfl, rfl, rfl⟩ := h
    refine ⟨?_, hK a w ρ rfl ht (Rho.le_refl _) hR (Bel.refl _ _)⟩
    rw [List.eq_nil_iff_forall_not_mem]
    intro i hi
    obtain ⟨h0, o, ho, _⟩ := mem_ready.1 hi
    exact absurd ((hmem i).2 ⟨(Array.getElem?_eq_some_iff.1 ho).1, h0⟩) (by simp)
  | succ fuel ih =>
    intro listed l tm σ fps ρ w a hf hsz hmem hnd hcl hnx hlo h hp hap htp htp2 hg hR ht hK
    have hgetD : ∀ j, j < ops.size → listed.getD j false = listed.getD j true := by
      intro j hj
      have : j < listed.size := by rw [hsz]; exact hj
      simp [Array.getD, this]
    refine ⟨fun hr => ?_, fun i hi => ?_⟩
    · -- the first of the list is ready
      exfalso
      cases l with
      | nil => simp at hf
      | cons i l =>
        obtain ⟨hlt, hun⟩ := (hmem i).1 List.mem_cons_self
        have ho : ops[i]? = some ops[i] := by simp [hlt]
        obtain ⟨m1, _⟩ := hms.spec ho
        have : i ∈ Region.ready .any ops listed := by
          refine mem_ready.2 ⟨hun, ops[i], ho, fun e he hb => ?_⟩
          obtain ⟨h1, h2⟩ := m1 e he hb
          have hnot : e.on ∉ i :: l := by
            intro hm
            rcases List.mem_cons.1 hm with h3 | h3
            · have := htp2 i List.mem_cons_self
              rw [h3, this] at h2; cases h2
            · have := (List.pairwise_cons.1 htp).1 e.on h3
              rw [this] at h2; cases h2
          rw [hgetD _ h1]
          cases hq : listed.getD e.on true with
          | true => rfl
          | false => exact absurd ((hmem e.on).2 ⟨h1, hq⟩) hnot
        rw [hr] at this
        cases this
    · obtain ⟨hun, oi, hoi, hall⟩ := mem_ready.1 hi
      have hlt : i < ops.size := (Array.getElem?_eq_some_iff.1 hoi).1
      have hil : i ∈ l := (hmem i).2 ⟨hlt, hun⟩
      obtain ⟨m1, m2⟩ := hms.spec hoi
      -- all that must come ahead is listed
      have hbits : ∀ j, j < ops.size → Nat.testBit (msGet ms i) j = true → listed.getD j true = true := by
        intro j hj hb
        obtain ⟨e, he, hbe, h1⟩ := m2 j hj hb
        have he1 := (m1 e he hbe).1
        have hon : listed.getD e.on true = true := by rw [← hgetD _ he1]; exact hall e he hbe
        rcases h1 with rfl | h1
        · exact hon
        · exact hcl e.on he1 hon j hj h1
      obtain ⟨l1, l2, rfl⟩ := List.append_of_mem hil
      have hsub : (l1 ++ l2).Sublist (l1 ++ i :: l2) := List.Sublist.append (List.Sublist.refl _) (List.sublist_cons_self _ _)
      have hj : ∀ j ∈ l1, Nat.testBit (msGet ms i) j = false ∧ apartAt ops ms j i = true := by
        intro j hj
        refine ⟨?_, ?_⟩
        · cases hb : Nat.testBit (msGet ms i) j with
          | false => rfl
          | true =>
            obtain ⟨h1, h2⟩ := (hmem j).1 (List.mem_append_left _ hj)
            have := hbits j h1 hb
            rw [h2] at this; cases this
        · exact (List.pairwise_append.1 hap).2.2 j hj i List.mem_cons_self
      obtain ⟨tm1, σ1, fi, fps', hd, hds, hp', _, _⟩ := bring hn l1 tm σ fps hnx hlo h hj hp
      obtain ⟨el, en⟩ := drawOp_ext hn hlo hd
      refine drawOp_wp hcf hd hF hg hR ht ?_
      intro a' w' ρ' e1 e2 e3 e4 e5
      have hni : i ∉ l1 ++ l2 := by
        have h1 := List.nodup_append.1 hnd
        intro hm
        rcases List.mem_append.1 hm with hm | hm
        · exact h1.2.2 i hm i List.mem_cons_self rfl
        · exact (List.nodup_cons.1 h1.2.1).1 hm
      have hget : ∀ j, (listed.setIfInBounds i true).getD j true = if i = j then true else listed.getD j true := by
        intro j
        by_cases hij : i = j
        · subst hij; simp [Array.getD, hsz, hlt]
        · rw [if_neg hij, getD_set_ne true hij]
      refine ih (listed.setIfInBounds i true) (l1 ++ l2) tm1 σ1 fps' ρ' w' a' ?_ ?_ ?_ ?_ ?_ (Nat.le_trans hnx en) (by rw [el]; exact hlo) hds hp' (hap.sublist hsub) (htp.sublist hsub) (fun j hj => htp2 j (hsub.subset hj)) (hg.mono e3) e4 e2 ?_
      · simp only [List.length_append, List.length_cons] at hf ⊢; omega
      · simp [hsz]
      · intro j
        rw [hget]
        by_cases hij : i = j
        · subst hij; simp [hni]
        · rw [if_neg hij, ← hmem j]
          simp only [List.mem_append, List.mem_cons]
          constructor
          · rintro (h1 | h1)
            · exact .inl h1
            · exact .inr (.inr h1)
          · rintro (h1 | h1 | h1)
            · exact .inl h1
            · exact absurd h1.symm hij
            · exact .inr h1
      · exact hnd.sublist hsub
      · intro q hq hlq j hj hb
        rw [hget] at hlq ⊢
        by_cases hij : i = j
        · rw [if_pos hij]
        · rw [if_neg hij]
          by_cases hiq : i = q
          · subst hiq; exact hbits j hj hb
          · rw [if_neg hiq] at hlq; exact hcl q hq hlq j hj hb
      · intro a2 w2 ρ2 f1 f2 f3 f4 f5
        exact hK a2 w2 ρ2 (f1.trans e1) f2 (Rho.le_trans e3 f3) f4 (e5.trans f5)

theorem drawRegion_ok (hm : P.follows .mixedOrders = true) {cf : CallF} (hn : CfNice cf) (hcf : CfOk P nG base cf) : DrOk P nG base cf := by
  intro id ops tm σ tm' σ' h F k ρ w a Q hF hg hR ht hK
  unfold drawRegion at h
  simp only at h
  split at h
  · rename_i hlo hok
    have hlo := Nat.le_of_ble_eq_true hlo
    split at h
    · cases h
    · rename_i tm2 σ2 fps hd
      split at h
      · rename_i hp
        simp only [Option.some.injEq, Prod.mk.injEq] at h
        obtain ⟨rfl, rfl⟩ := h
        unfold drawOk at hok
        split at hok
        · rename_i hlen hback
          · have p1 := Nat.eq_of_beq_eq_true hlen
            obtain ⟨p2, p4, p5, hap, t1, t2, _⟩ := goOk_spec _ _ _ hok (fun p hp => by cases hp)
            have p3 : ∀ i, i ∈ order ops ↔ i < ops.size := by
              intro i
              have := p5 i
              rw [Nat.testBit_two_pow_sub_one] at this
              simp only [Nat.zero_testBit, Bool.false_eq_true, false_or, decide_eq_true_eq] at this
              exact this.symm
            have hmasks := masks_ok hback
            have htop := addPos_toNat σ.nx ops.size
            have hR' : Rel base ρ { σ with nx := addPos σ.nx ops.size } { w with drawn := w.drawn + 1 } := (hR.nxt _).sameHeap rfl
            have hB : Bel base w { w with drawn := w.drawn + 1 } := (Bel.refl base w).drew
            refine wpIn_region_any hm ?_
            refine draw_any hn hcf hmasks hF ops.size (Array.replicate ops.size false) (order ops) tm _ fps ρ _ a p1.symm (by simp) (fun i => ?_) p2 (fun i hi hl => ?_) (Nat.le_refl _) ?_ hd hp hap t1 t2 hg hR' ht ?_
            · rw [p3]
              constructor
              · intro hi; exact ⟨hi, by simp [Array.getD, hi]⟩
              · exact fun h => h.1
            · simp [Array.getD, hi] at hl
            · simp only [htop]; omega
            · intro a2 w2 ρ2 f1 f2 f3 f4 f5
              exact hK a2 w2 ρ2 f1 f2 f3 f4 (hB.trans f5)
        · cases hok
      · cases h
  · cases h

/-- **The evaluator answers as the program does.** -/
theorem ev_ok (hm : P.follows .mixedOrders = true) {X : ExtF} (hX : ExtOk P nG base X) (hN : ExtNice X) (n : Nat) : CodeOk P nG base (evC P nG X n) :=
  evC_ok hX (fun n ih => drawRegion_ok hm (callW_nice hN (evC_nice hN n)) (callW_ok hX ih)) n

theorem evF_ok (hm : P.follows .mixedOrders = true) {X : ExtF} (hX : ExtOk P nG base X) (hN : ExtNice X) (n : Nat) : CfOk P nG base (evF P nG X n) := callW_ok hX (ev_ok hm hX hN n)

end
end --all
end Go.Ev
