/- Part Sy of the proof that CostNil answers true for every filter and every mood. Conditions: those that each theorem names. -/
import Derived.Test.YtmcammnkdcfmaaaGreatDoorEvE
namespace Go.Ev
noncomputable section --all

/-! ### Rules over the abstract heap: code by its parts, calls by what is known of them -/

theorem Bel.any {B B' : Bd} {w w' : World} (h : Bel B w w') : Bel B' w w' := ⟨h.os, h.tape, h.output, h.size⟩

/-- Below N the numbers mean what they meant. -/
def Rho.leN (N : Nat) (ρ ρ' : Rho) : Prop := ∀ b l, b.toNat < N → ρ b = some l → ρ' b = some l
theorem Rho.leN_of {N : Nat} {ρ ρ' : Rho} (h : ρ.le ρ') : ρ.leN N ρ' := fun b l _ h' => h b l h'
theorem Rho.leN_refl (N : Nat) (ρ : Rho) : ρ.leN N ρ := fun _ _ _ h => h
theorem Rho.leN_trans {N : Nat} {a b c : Rho} (h : a.leN N b) (k : b.leN N c) : a.leN N c := fun x l hx h' => k x l hx (h x l hx h')

/-- How code ends. -/
inductive Rz where
  | nrm (tm : Tm) (σ : St)
  | ex (id : Nat) (tm : Tm) (σ : St)
  | ret (tm : Tm) (σ : St)

section
variable {P : Program} {nG : Nat}

def EndsN (N : Nat) (B : Bd) (ρ : Rho) (w : World) (tm : Tm) (σ : St) (K : Act → World → Prop) : Prop :=
  ∀ a' w' ρ', TR ρ' tm a'.tmps → a'.defers = [] → ρ.leN N ρ' → Rel B ρ' σ w' → Bel B w w' → K a' w'

def RzOk (N : Nat) (B : Bd) (ρ : Rho) (w : World) (r : Rz) (Q : Exit → Act → World → Prop) : Prop := match r with
  | .nrm tm σ => EndsN N B ρ w tm σ (Q .normal)
  | .ex id tm σ => EndsN N B ρ w tm σ (Q (.exit id))
  | .ret tm σ => EndsN N B ρ w tm σ (Q .ret)

theorem EndsN.later {N : Nat} {B : Bd} {ρ ρ' : Rho} {w w' : World} {tm : Tm} {σ : St} {K : Act → World → Prop} (h : EndsN N B ρ w tm σ K) (hr : ρ.leN N ρ') (hw : Bel B w w') : EndsN N B ρ' w' tm σ K :=
  fun a' w2 ρ2 h1 h2 h3 h4 h5 => h a' w2 ρ2 h1 h2 (Rho.leN_trans hr h3) h4 (hw.trans h5)
theorem RzOk.later {N : Nat} {B : Bd} {ρ ρ' : Rho} {w w' : World} {r : Rz} {Q : Exit → Act → World → Prop} (h : RzOk N B ρ w r Q) (hr : ρ.leN N ρ') (hw : Bel B w w') : RzOk N B ρ' w' r Q := by
  cases r <;> exact EndsN.later h hr hw
theorem EndsN.now {N : Nat} {B : Bd} {ρ : Rho} {w : World} {tm : Tm} {σ : St} {K : Act → World → Prop} (h : EndsN N B ρ w tm σ K) {a : Act} (ht : TR ρ tm a.tmps) (hd : a.defers = []) (hR : Rel B ρ σ w) : K a w :=
  h a w ρ ht hd (Rho.leN_refl _ _) hR (Bel.refl _ _)

theorem Glob.monoN {N : Nat} {ρ ρ' : Rho} (h : Glob nG ρ) (hN : nG < N) (hr : ρ.leN N ρ') : Glob nG ρ' := fun g hg => by
  obtain ⟨e, he⟩ := h g hg
  exact ⟨e, hr _ _ (by rw [Pos.toNat_ofSucc]; omega) he⟩

/-- What is asked of code, at a state: each answer that may come is met. -/
def AW (P : Program) (nG N : Nat) (B : Bd) (c : Code) (tm : Tm) (σ : St) (Q : Bd → Rz → Prop) : Prop :=
  ∀ (F : Fence) (k : Nat) (ρ : Rho) (w : World) (a : Act) (K : Exit → Act → World → Prop), Wd F → F.round = none → nG < N → Glob nG ρ → Rel B ρ σ w → TR ρ tm a.tmps → a.defers = [] →
    (∀ B' r, Q B' r → RzOk N B' ρ w r K) → c.wpIn F k P K a w

/-- Of operations. -/
def AO (P : Program) (nG N : Nat) (B : Bd) (ops : Array Oper) (l : List Nat) (tm : Tm) (σ : St) (K : Bd → Tm → St → Prop) : Prop :=
  ∀ (F : Fence) (k : Nat) (ρ : Rho) (w : World) (a : Act) (Q : Exit → Act → World → Prop), Wd F → nG < N → Glob nG ρ → Rel B ρ σ w → TR ρ tm a.tmps → a.defers = [] →
    (∀ B' tm' σ', K B' tm' σ' → EndsN N B' ρ w tm' σ' (Q .normal)) → wpOpsIn F k P ops Q l a w

variable {N : Nat} {B : Bd} {tm : Tm} {σ : St} {Q : Bd → Rz → Prop}

theorem AW.mono {c : Code} {Q' : Bd → Rz → Prop} (h : AW P nG N B c tm σ Q') (hq : ∀ B' r, Q' B' r → Q B' r) : AW P nG N B c tm σ Q :=
  fun F k ρ w a K hF hr hN hg hR ht hd hK => h F k ρ w a K hF hr hN hg hR ht hd fun B' r h' => hK B' r (hq B' r h')

theorem AW.seq {x y : Code} {Q' : Bd → Rz → Prop} (h : AW P nG N B x tm σ Q') (hn : ∀ B' tm' σ', Q' B' (.nrm tm' σ') → AW P nG N B' y tm' σ' Q)
    (ho : ∀ B' r, Q' B' r → (match r with | .nrm _ _ => True | r => Q B' r)) : AW P nG N B (.seq x y) tm σ Q := by
  intro F k ρ w a K hF hr hN hg hR ht hd hK
  refine wpIn_seq (h F k ρ w a _ hF hr hN hg hR ht hd fun B' r hq => ?_)
  cases r with
  | nrm tm' σ' =>
    intro a' w' ρ' ht' hd' hle hR' hB
    exact hn B' tm' σ' hq F k ρ' w' a' K hF hr hN (hg.monoN hN hle) hR' ht' hd' fun B2 r2 h2 => (hK B2 r2 h2).later hle hB.any
  | ex id tm' σ' => exact hK B' _ (ho B' _ hq)
  | ret tm' σ' => exact hK B' _ (ho B' _ hq)

/-- What the first of two is to come to. -/
def thenQ (P : Program) (nG N : Nat) (y : Code) (Q : Bd → Rz → Prop) : Bd → Rz → Prop := fun B r => match r with
  | .nrm tm σ => AW P nG N B y tm σ Q
  | r => Q B r
theorem thenQ_nrm {y : Code} (h : AW P nG N B y tm σ Q) : thenQ P nG N y Q B (.nrm tm σ) := h
theorem thenQ_ex {y : Code} {id : Nat} (h : Q B (.ex id tm σ)) : thenQ P nG N y Q B (.ex id tm σ) := h
theorem thenQ_ret {y : Code} (h : Q B (.ret tm σ)) : thenQ P nG N y Q B (.ret tm σ) := h

/-- Of two, the first by what the second makes of it. -/
theorem AW.seq1 {x y : Code} (h : AW P nG N B x tm σ (thenQ P nG N y Q)) : AW P nG N B (.seq x y) tm σ Q :=
  AW.seq h (fun _ _ _ h => h) (fun B' r h => by cases r <;> first | trivial | exact h)

theorem AW.skip (h : Q B (.nrm tm σ)) : AW P nG N B .skip tm σ Q := fun _ _ _ _ _ _ _ _ _ _ hR ht hd hK => wpIn_skip (EndsN.now (hK _ _ h) ht hd hR)
theorem AW.label {l : Nat} (h : Q B (.nrm tm σ)) : AW P nG N B (.label l) tm σ Q := fun _ _ _ _ _ _ _ _ _ _ hR ht hd hK => wpIn_label (EndsN.now (hK _ _ h) ht hd hR)
theorem AW.exit {id : Nat} (h : Q B (.ex id tm σ)) : AW P nG N B (.exit id) tm σ Q := fun _ _ _ _ _ _ _ _ _ _ hR ht hd hK => wpIn_exit (EndsN.now (hK _ _ h) ht hd hR)
theorem AW.ret (h : Q B (.ret tm σ)) : AW P nG N B .ret tm σ Q := fun _ _ _ _ _ _ _ _ _ _ hR ht hd hK => wpIn_ret (EndsN.now (hK _ _ h) ht hd hR)

theorem AW.cond {c : Operand} {x y : Code} {b : Bool} (he : evA nG tm c = .bool b) (h : AW P nG N B (match b with | true => x | false => y) tm σ Q) : AW P nG N B (.cond c x y) tm σ Q := by
  intro F k ρ w a K hF hr hN hg hR ht hd hK
  have hv := evA_ok (a := a) hg ht c
  rw [he] at hv
  generalize hvv : a.eval c = v at hv
  cases hv
  cases b with
  | true => exact wpIn_cond_true hvv (h F k ρ w a K hF hr hN hg hR ht hd hK)
  | false => exact wpIn_cond_false hvv (h F k ρ w a K hF hr hN hg hR ht hd hK)

def inBlock (id : Nat) (Q : Bd → Rz → Prop) : Bd → Rz → Prop := fun B r => match r with
  | .ex j tm σ => if j = id then Q B (.nrm tm σ) else Q B (.ex j tm σ)
  | r => Q B r

theorem inBlock_ex {id : Nat} (h : Q B (.nrm tm σ)) : inBlock id Q B (.ex id tm σ) := by simp only [inBlock, if_true]; exact h
theorem inBlock_ne {id j : Nat} (e : ¬ j = id) (h : Q B (.ex j tm σ)) : inBlock id Q B (.ex j tm σ) := by simp only [inBlock, e, if_false]; exact h
theorem inBlock_nrm {id : Nat} (h : Q B (.nrm tm σ)) : inBlock id Q B (.nrm tm σ) := h
theorem inBlock_ret {id : Nat} (h : Q B (.ret tm σ)) : inBlock id Q B (.ret tm σ) := h

theorem AW.block {id : Nat} {x : Code} (h : AW P nG N B x tm σ (inBlock id Q)) : AW P nG N B (.block id x) tm σ Q := by
  intro F k ρ w a K hF hr hN hg hR ht hd hK
  refine wpIn_block (h F k ρ w a _ hF hr hN hg hR ht hd fun B' r hq => ?_)
  cases r with
  | ex j tm' σ' =>
    simp only [inBlock] at hq
    intro a' w' ρ' ht' hd' hle hR' hB
    simp only [Exit.inBlock]
    split at hq
    · rename_i e
      simp only [e, if_true]
      exact hK B' _ hq a' w' ρ' ht' hd' hle hR' hB
    · rename_i e
      simp only [e, if_false]
      exact hK B' _ hq a' w' ρ' ht' hd' hle hR' hB
  | nrm tm' σ' => exact hK B' _ hq
  | ret tm' σ' => exact hK B' _ hq

theorem AW.scope {x : Code} (h : AW P nG N B x tm σ Q) : AW P nG N B (.scope x) tm σ Q := by
  intro F k ρ w a K hF hr hN hg hR ht hd hK
  refine wpIn_scope (h F k ρ w a _ hF hr hN hg hR ht hd fun B' r hq => ?_)
  have := hK B' r hq
  cases r with
  | _ => exact this

/-- What a round is to come to. -/
def loopQ (I : Nat → Bd → Tm → St → Prop) (m : Nat) (Q : Bd → Rz → Prop) : Bd → Rz → Prop := fun B r => match r with
  | .nrm tm σ => ∃ m', m' < m ∧ I m' B tm σ
  | r => Q B r
theorem loopQ_nrm {I : Nat → Bd → Tm → St → Prop} {m : Nat} (m' : Nat) (hm : m' < m) (h : I m' B tm σ) : loopQ I m Q B (.nrm tm σ) := ⟨m', hm, h⟩
theorem loopQ_ex {I : Nat → Bd → Tm → St → Prop} {m id : Nat} (h : Q B (.ex id tm σ)) : loopQ I m Q B (.ex id tm σ) := h
theorem loopQ_ret {I : Nat → Bd → Tm → St → Prop} {m : Nat} (h : Q B (.ret tm σ)) : loopQ I m Q B (.ret tm σ) := h

/-- A loop: a relation with a measure. -/
theorem AW.loop {x : Code} (I : Nat → Bd → Tm → St → Prop)
    (hI : ∀ m B tm σ, I m B tm σ → AW P nG N B x tm σ (loopQ I m Q))
    {m : Nat} (h : I m B tm σ) : AW P nG N B (.loop x) tm σ Q := by
  have key : ∀ (F : Fence) (k : Nat) (K : Exit → Act → World → Prop), Wd F → F.round = none → nG < N → ∀ (M m : Nat) (B : Bd) (tm : Tm) (σ : St) (ρ : Rho) (w : World) (a : Act), m < M → I m B tm σ → Glob nG ρ → Rel B ρ σ w → TR ρ tm a.tmps → a.defers = [] →
      (∀ B' r, Q B' r → RzOk N B' ρ w r K) → Code.roundsIn F k P x K M a w := by
    intro F k K hF hr hN M
    induction M with
    | zero => intro m B tm σ ρ w a hm; omega
    | succ M ih =>
      intro m B tm σ ρ w a hm h hg hR ht hd hK
      rw [roundsIn_succ]
      refine hI m B tm σ h F k ρ w a _ hF hr hN hg hR ht hd fun B' r hq => ?_
      cases r with
      | nrm tm' σ' =>
        obtain ⟨m', hlt, h'⟩ := hq
        intro a' w' ρ' ht' hd' hle hR' hB
        exact ih m' B' tm' σ' ρ' w' a' (by omega) h' (hg.monoN hN hle) hR' ht' hd' fun B2 r2 h2 => (hK B2 r2 h2).later hle hB.any
      | ex id tm' σ' => exact hK B' _ hq
      | ret tm' σ' => exact hK B' _ hq
  intro F k ρ w a K hF hr hN hg hR ht hd hK
  exact wpIn_loop_rounds (m + 1) (key F k K hF hr hN (m + 1) m B tm σ ρ w a (by omega) h hg hR ht hd hK)

/-! #### Regions -/

theorem Then.ofEnds {ρ : Rho} {w : World} {a : Act} {tm' : Tm} {σ' : St} {K : Act → World → Prop} (hd : a.defers = []) (h : EndsN N B ρ w tm' σ' K) : Then B ρ w a tm' σ' K :=
  fun a' w' ρ' e1 e2 e3 e4 e5 => h a' w' ρ' e2 (e1.trans hd) (Rho.leN_of e3) e4 e5

def nrmQ (Q : Bd → Rz → Prop) : Bd → Tm → St → Prop := fun B tm σ => Q B (.nrm tm σ)
theorem nrmQ_mk (h : Q B (.nrm tm σ)) : nrmQ Q B tm σ := h

theorem AW.region {id : Nat} {ops : Array Oper} (h : AO P nG N B ops (List.range ops.size) tm σ (nrmQ Q)) : AW P nG N B (.region id ops false) tm σ Q := by
  intro F k ρ w a K hF hr hN hg hR ht hd hK
  exact wpIn_region (h F k ρ w a K hF hN hg hR ht hd fun B' tm' σ' hq => hK B' _ hq)

/-- A region that draws, by the evaluator's region: its calls by cf. -/
theorem AW.draw (hm : P.follows .mixedOrders = true) {cf : CallF} (hn : CfNice cf) (hcf : CfOk P nG B cf) {id : Nat} {ops : Array Oper} {tm' : Tm} {σ' : St} (h : drawRegion P nG cf ops tm σ = some (tm', σ')) (hq : Q B (.nrm tm' σ')) : AW P nG N B (.region id ops true) tm σ Q := by
  intro F k ρ w a K hF hr hN hg hR ht hd hK
  exact drawRegion_ok hm hn hcf id ops tm σ tm' σ' h F k ρ w a K hF hg hR ht (Then.ofEnds hd (hK B _ hq))

variable {ops : Array Oper} {K : Bd → Tm → St → Prop}

theorem AO.nil (h : K B tm σ) : AO P nG N B ops [] tm σ K := fun _ _ _ _ _ _ _ _ _ hR ht hd hK => EndsN.now (hK _ _ _ h) ht hd hR

theorem AO.mono {l : List Nat} {K' : Bd → Tm → St → Prop} (h : AO P nG N B ops l tm σ K') (hk : ∀ B' tm' σ', K' B' tm' σ' → K B' tm' σ') : AO P nG N B ops l tm σ K :=
  fun F k ρ w a Q hF hN hg hR ht hd hK => h F k ρ w a Q hF hN hg hR ht hd fun B' tm' σ' h' => hK B' tm' σ' (hk B' tm' σ' h')

/-- A row of operations, by the evaluator. -/
theorem AO.run {cf : CallF} {yf : YieldF} (hcf : CfOk P nG B cf) (hyf : YfOk P nG B yf) : ∀ (l1 l2 : List Nat) {tm : Tm} {σ : St} {tm' : Tm} {σ' : St}, seqOps P nG cf yf ops l1 tm σ = some (tm', σ') → AO P nG N B ops l2 tm' σ' K → AO P nG N B ops (l1 ++ l2) tm σ K := by
  intro l1 l2
  induction l1 with
  | nil =>
    intro tm σ tm' σ' h h2
    simp only [seqOps, Option.some.injEq, Prod.mk.injEq] at h
    obtain ⟨rfl, rfl⟩ := h
    exact h2
  | cons i l ih =>
    intro tm σ tm' σ' h h2 F k ρ w a Q hF hN hg hR ht hd hK
    rw [List.cons_append, wpOpsIn_cons]
    unfold wpOpIn
    simp only [seqOps] at h
    split at h
    · cases h
    · rename_i o ho
      simp only [ho]
      split at h
      · cases h
      · rename_i hw
        rw [wantA_ok hw ht]
        simp only [Bool.false_eq_true, if_false]
        refine ⟨fun f _ => hF.fn f, ?_⟩
        exact ih h h2 F k ρ w _ Q hF hN hg hR (ht.putO o.dst (VR.unwanted ρ)) ((Act.put_defers' _ _ _).trans hd) hK
      · rename_i hw
        rw [wantA_ok hw ht]
        simp only [if_true]
        split at h
        · cases h
        · rename_i v σ1 u hdo
          refine doOp_ok hcf hyf hdo hF hg hR ht ?_
          intro w1 ρ1 v1 hv hle hR1 hB1
          have key : ∃ n, seqOps P nG cf yf ops l (tm.put o.dst v) { σ1 with nx := n } = some (tm', σ') := by
            split at h
            · exact ⟨_, h⟩
            · exact ⟨σ1.nx, h⟩
          obtain ⟨n, h⟩ := key
          exact ih h h2 F k ρ1 w1 _ Q hF hN (hg.mono hle) (hR1.nxt n) ((ht.mono hle).putO o.dst hv) ((Act.put_defers' _ _ _).trans hd) fun B' tm' σ' hk => (hK B' tm' σ' hk).later (Rho.leN_of hle) hB1.any

def bump (u : Bool) (σ : St) : St := match u with
  | true => { σ with nx := σ.nx.succ }
  | false => σ

/-- One operation that is no call. -/
theorem AO.deed {i : Nat} {l : List Nat} {o : Oper} {v : AV} {σ' : St} {u : Bool} (ho : ops[i]? = some o) (hw : wantA ops tm o = some true) (hd : (deed P o (evA nG tm)).run σ.nx σ = some (v, σ', u))
    (h : AO P nG N B ops l (tm.put o.dst v) (bump u σ') K) : AO P nG N B ops (i :: l) tm σ K := by
  intro F k ρ w a Q hF hN hg hR ht hdf hK
  rw [wpOpsIn_cons]
  unfold wpOpIn
  simp only [ho]
  rw [wantA_ok hw ht]
  simp only [if_true]
  refine deed_wp hd hF hg hR ht ?_
  intro w1 ρ1 v1 hv hle hR1 hB1
  have hR2 : Rel B ρ1 (bump u σ') w1 := by
    cases u with
    | true => exact hR1.nxt _
    | false => exact hR1
  exact h F k ρ1 w1 _ Q hF hN (hg.mono hle) hR2 ((ht.mono hle).putO o.dst hv) ((Act.put_defers' _ _ _).trans hdf) fun B' tm' σ' hk => (hK B' tm' σ' hk).later (Rho.leN_of hle) hB1.any

/-- An operation that is not wanted. -/
theorem AO.pass {i : Nat} {l : List Nat} {o : Oper} (ho : ops[i]? = some o) (hw : wantA ops tm o = some false) (h : AO P nG N B ops l (tm.put o.dst (.tup [])) σ K) : AO P nG N B ops (i :: l) tm σ K := by
  intro F k ρ w a Q hF hN hg hR ht hd hK
  rw [wpOpsIn_cons]
  unfold wpOpIn
  simp only [ho]
  rw [wantA_ok hw ht]
  simp only [Bool.false_eq_true, if_false]
  refine ⟨fun f _ => hF.fn f, ?_⟩
  exact h F k ρ w _ Q hF hN hg hR (ht.putO o.dst (VR.unwanted ρ)) ((Act.put_defers' _ _ _).trans hd) hK

/-- A call comes to be made. -/
theorem call_wp {o : Oper} {c : Call} {f : FuncId} {args : List AV} {ρ : Rho} {w : World} {a : Act} {F : Fence} {k : Nat} {R : Ending → World → Prop} {K : Act → World → Prop} {Q : Exit → Act → World → Prop}
    (hop : o.op = .call c) (hct : callT P c (evA nG tm) = .fn f args) (hF : Wd F) (hg : Glob nG ρ) (ht : TR ρ tm a.tmps)
    (hc : ∀ vs : Array Value, VRs ρ args vs.toList → CallTo F (k - 1) P f vs w R) (hR : ∀ e w', R e w' → ∃ v', e = .returned v' ∧ K (a.put o.dst v') w') : o.wpIn F k P a w K Q := by
  have hE := fun x => evA_ok (a := a) hg ht x
  have hsem : o.semAt F.round a.eval = (do let d ← resolve a.eval c o.type; invoke d.target d.args) := by
    rw [semAt_eq (by intro c' e; rw [hop] at e; cases e)]
    have hnb : ∀ b, c.callee ≠ .builtin b := by
      intro b hb
      unfold callT at hct
      rw [hb] at hct
      cases hct
    obtain ⟨dst, op, ty, pos, after, guard⟩ := o
    simp only at hop
    subst hop
    obtain ⟨callee, argTypes, cargs⟩ := c
    cases callee with
    | builtin b => exact absurd rfl (hnb b)
    | _ => rfl
  have hargs : VRs ρ (c.args.toList.map (evA nG tm)) (c.args.map a.eval).toList := VRs.of_mapA hE c.args
  have hdep : F.depth.isSome = true → 1 ≤ k := fun hd => by rw [hF.depth] at hd; cases hd
  have enter : ∀ (vs : Array Value), VRs ρ args vs.toList → (do let d ← resolve a.eval c o.type; invoke d.target d.args : Sem Next).run P w = (callFunc f vs).run P w → o.wpIn F k P a w K Q := by
    intro vs hr heq
    refine ⟨fun f _ => hF.fn f, ?_⟩
    rw [hsem, heq]
    rcases hc vs hr with ⟨v', hv, hp⟩ | ⟨he, hc⟩
    · rw [hv]
      obtain ⟨v2, e, h2⟩ := hR _ _ hp
      cases e
      exact h2
    · rw [he]
      refine ⟨hdep, hc.mono fun e w' hp => ?_⟩
      obtain ⟨v2, rfl, h2⟩ := hR _ _ hp
      exact h2
  unfold callT at hct
  split at hct
  · rename_i fo hfo
    have hfv := hE fo
    split at hct
    · rename_i g xs ys hev
      cases hct
      rw [hev] at hfv
      generalize hfvv : a.eval fo = fv at hfv
      cases hfv with
      | fn e1 h1 e2 h2 =>
        rename_i vs us
        have hxs : VRs ρ xs vs.toList := ⟨by simpa using e1, fun i x v p q => h1 i x v p (by simpa using q)⟩
        have hys : VRs ρ ys us.toList := ⟨by simpa using e2, fun i x v p q => h2 i x v p (by simpa using q)⟩
        refine enter ((vs ++ c.args.map a.eval) ++ us) ?_ ?_
        · have := hxs.append (hargs.append hys)
          simpa using this
        · simp only [resolve, hfo, Deferred.ofValue, hfvv, Sem.run_bind, Sem.run_pure, Result.andThen, invoke]
    · cases hct
    · cases hct
  · rename_i rcv name hfo
    have hrv := hE rcv
    split at hct
    · rename_i t x hev
      split at hct
      · rename_i f' hm
        cases hct
        rw [hev] at hrv
        generalize hrvv : a.eval rcv = rv at hrv
        cases hrv with
        | ifc hx =>
          rename_i xv
          obtain ⟨n, hn⟩ := depth_pos P
          refine enter (#[xv] ++ c.args.map a.eval) ?_ ?_
          · have e0 : (#[xv] ++ c.args.map a.eval).toList = xv :: (c.args.map a.eval).toList := by simp
            rw [e0]
            exact VRs.cons hx hargs
          · have e0 : (#[xv] ++ c.args.map a.eval).toList = xv :: (c.args.map a.eval).toList := by simp
            simp (config := { failIfUnchanged := false }) only [resolve, hfo, hrvv, Sem.run_bind, Sem.run_pure, Result.andThen, invoke]
            have e1 : (#[Value.iface t xv] ++ c.args.map a.eval)[0]? = some (.iface t xv) := by rw [Array.getElem?_append_left (by simp)]; rfl
            have e2 : (#[Value.iface t xv] ++ c.args.map a.eval).extract 1 (#[Value.iface t xv] ++ c.args.map a.eval).size = c.args.map a.eval := by
              apply Array.ext'; simp; exact List.take_of_length_le (by simp)
            simp only [e1, e2, callMethod, Sem.run_bind, run_program, Result.andThen, hn, methA_ok hm]
      · cases hct
    · cases hct
  · cases hct

/-- What comes of a call: a value, a state, what is kept from now on. -/
def Comes (ρ : Rho) (w : World) (K : Bd → AV → St → Prop) : Ending → World → Prop := fun e w' =>
  ∃ B' v v' σ' ρ', e = .returned v' ∧ VR ρ' v v' ∧ ρ.le ρ' ∧ Rel B' ρ' σ' w' ∧ Bel B' w w' ∧ K B' v σ'

/-- What is known of a call, at a state. -/
def AC (P : Program) (nG : Nat) (B : Bd) (f : FuncId) (args : List AV) (σ : St) (K : Bd → AV → St → Prop) : Prop :=
  ∀ (F : Fence) (k : Nat) (ρ : Rho) (w : World) (vs : Array Value), Wd F → Glob nG ρ → Rel B ρ σ w → VRs ρ args vs.toList → CallTo F k P f vs w (Comes ρ w K)

theorem AO.call {i : Nat} {l : List Nat} {o : Oper} {c : Call} {f : FuncId} {args : List AV} (ho : ops[i]? = some o) (hw : wantA ops tm o = some true) (hop : o.op = .call c) (hct : callT P c (evA nG tm) = .fn f args)
    (h : AC P nG B f args σ fun B' v σ' => AO P nG N B' ops l (tm.put o.dst v) σ' K) : AO P nG N B ops (i :: l) tm σ K := by
  intro F k ρ w a Q hF hN hg hR ht hd hK
  rw [wpOpsIn_cons]
  unfold wpOpIn
  simp only [ho]
  rw [wantA_ok hw ht]
  simp only [if_true]
  refine call_wp hop hct hF hg ht (fun vs hv => h F (k - 1) ρ w vs hF hg hR hv) fun e w' hp => ?_
  obtain ⟨B', v, v', σ', ρ', rfl, h1, h2, h3, h4, h5⟩ := hp
  exact ⟨v', rfl, h5 F k ρ' w' _ Q hF hN (hg.mono h2) h3 ((ht.mono h2).putO o.dst h1) ((Act.put_defers' _ _ _).trans hd) fun B2 tm2 σ2 hk => (hK B2 tm2 σ2 hk).later (Rho.leN_of h2) h4.any⟩

theorem AC.mono {f : FuncId} {args : List AV} {K K' : Bd → AV → St → Prop} (h : AC P nG B f args σ K') (hk : ∀ B' v σ', K' B' v σ' → K B' v σ') : AC P nG B f args σ K :=
  fun F k ρ w vs hF hg hR hv => (h F k ρ w vs hF hg hR hv).mono fun _ _ ⟨B', v, v', σ', ρ', h1, h2, h3, h4, h5, h6⟩ => ⟨B', v, v', σ', ρ', h1, h2, h3, h4, h5, hk _ _ _ h6⟩

/-- By the evaluator. -/
theorem AC.eval (hm : P.follows .mixedOrders = true) {X : ExtF} (hX : ExtOk P nG B X) (hN : ExtNice X) (n : Nat) {f : FuncId} {args : List AV} {v : AV} {σ' : St} {K : Bd → AV → St → Prop} (h : evKF P nG X n f args σ = some (v, σ')) (hk : K B v σ') : AC P nG B f args σ K := by
  intro F k ρ w vs hF hg hR hv
  rw [evKF_eq] at h
  refine (evF_ok hm hX hN n f args σ v σ' h F k ρ w vs hF hg hR hv).mono fun e w' ⟨v', ρ', h1, h2, h3, h4, h5⟩ => ⟨B, v, v', σ', ρ', h1, h2, h3, h4, h5, hk⟩

/-- What a body's end comes to. -/
def BodyQ (P : Program) (nG : Nat) (fn : Func) (K : Bd → AV → St → Prop) : Bd → Rz → Prop := fun B r => match r with
  | .nrm tm σ => ∃ v, resV P nG tm σ fn.results.toList = some v ∧ K B v σ
  | .ret tm σ => ∃ v, resV P nG tm σ fn.results.toList = some v ∧ K B v σ
  | _ => False

/-- A call by the function's body. N: beyond all numbers of the state. -/
theorem AC.body (N : Nat) {f : FuncId} {args : List AV} {fn : Func} {c : Code} {K : Bd → AV → St → Prop} (hb : bodyA P f = some (fn, c)) (hG : nG < N) (hN : ∀ b, σ.hp.get b ≠ none → b.toNat < N)
    (h : AW P nG N B c (initTm fn.ntmps args) σ (BodyQ P nG fn K)) : AC P nG B f args σ K := by
  intro F k ρ w vs hF hg hR hv
  obtain ⟨hf, hbody, henter⟩ := bodyA_spec hb
  refine .inr ⟨henter vs w, ?_⟩
  have fin : ∀ B' tm σ1, (∃ v, resV P nG tm σ1 fn.results.toList = some v ∧ K B' v σ1) →
      EndsN N B' ρ w tm σ1 (fun a' w' => LeavesInM F.plain k P fn a'.tmps (Comes ρ w K) a'.defers .returning w') := by
    intro B' tm σ1 h1 a' w' ρ' ht hd hle hR' hB
    obtain ⟨v2, hv2, hk⟩ := h1
    have hle' : ρ.le ρ' := fun b l hb => hle b l (hN b (hR.dom b l hb)) hb
    refine shut_ok (base := B') [] σ1 σ1 rfl ρ' w' a'.defers (by rw [hd]; exact .nil) hR' hB ?_
    intro w2 hR2 hB2
    obtain ⟨c2, h3, h4⟩ := resV_ok hv2 (hg.mono hle') hR2 ht
    exact ⟨c2, h3, B', v2, c2, σ1, ρ', rfl, h4, hle', hR2, hB2, hk⟩
  have hcall : CallsIn F.plain k P f vs w (Comes ρ w K) := by
    refine callsIn_of_wp_marks hf hbody (hF.fn f) ?_
    refine h F.plain k ρ w _ _ ⟨hF.fn, hF.depth⟩ rfl hG hg hR (initTm_ok fn.ntmps hv) rfl fun B' r hq => ?_
    cases r with
    | nrm tm σ1 => exact fin B' tm σ1 hq
    | ret tm σ1 => exact fin B' tm σ1 hq
    | ex id tm σ1 => exact hq.elim
  exact hcall

/-! #### Weaker states; other bounds -/

/-- Of the slots some alone are kept. -/
def keepL (tm : Tm) : List Nat → PTree AV → PTree AV
  | [], t => t
  | i :: l, t => match tm.t.get (Pos.ofSucc i) with
    | some v => keepL tm l (t.set v (Pos.ofSucc i))
    | none => keepL tm l t
def Tm.keep (tm : Tm) (l : List Nat) : Tm := ⟨tm.N, keepL tm l .leaf⟩

theorem keepL_get (tm : Tm) {j : Nat} {x : AV} : ∀ (l : List Nat) (t : PTree AV), (∀ y, t.get (Pos.ofSucc j) = some y → tm.get j = y) → (keepL tm l t).get (Pos.ofSucc j) = some x → tm.get j = x := by
  intro l
  induction l with
  | nil => intro t h hx; exact h x hx
  | cons i l ih =>
    intro t h hx
    simp only [keepL] at hx
    split at hx
    · rename_i v hv
      refine ih _ (fun y hy => ?_) hx
      rw [PTree.get_set] at hy
      split at hy
      · rename_i e
        cases hy
        unfold Tm.get
        rw [← Pos.ofSucc_inj e, hv]
      · exact h y hy
    · exact ih _ h hx

theorem TR.keep {ρ : Rho} {a : Array Value} (h : TR ρ tm a) (l : List Nat) : TR ρ (tm.keep l) a := by
  refine ⟨h.size, fun i v hv => ?_⟩
  have : (tm.keep l).get i = (match (keepL tm l .leaf).get (Pos.ofSucc i) with | some v => v | none => .und) := rfl
  rw [this]
  split
  · rename_i x hx
    rw [← keepL_get tm l .leaf (fun y hy => by rw [PTree.get_leaf] at hy; cases hy) hx]
    exact h.at_ i v hv
  · exact .und _

theorem AW.keep {c : Code} (l : List Nat) (h : AW P nG N B c (tm.keep l) σ Q) : AW P nG N B c tm σ Q :=
  fun F k ρ w a K hF hr hN hg hR ht hd hK => h F k ρ w a K hF hr hN hg hR (ht.keep l) hd hK

/-- The state may be told otherwise, the world in sight. -/
theorem AW.world {c : Code} (h : ∀ ρ w, Glob nG ρ → Rel B ρ σ w → ∃ B' σ', Rel B' ρ σ' w ∧ AW P nG N B' c tm σ' Q) : AW P nG N B c tm σ Q := by
  intro F k ρ w a K hF hr hN hg hR ht hd hK
  obtain ⟨B', σ', hR', h'⟩ := h ρ w hg hR
  exact h' F k ρ w a K hF hr hN hg hR' ht hd hK

theorem AC.world {f : FuncId} {args : List AV} {K : Bd → AV → St → Prop} (h : ∀ ρ w, Glob nG ρ → Rel B ρ σ w → ∃ B' σ', Rel B' ρ σ' w ∧ AC P nG B' f args σ' K) : AC P nG B f args σ K := by
  intro F k ρ w vs hF hg hR hv
  obtain ⟨B', σ', hR', h'⟩ := h ρ w hg hR
  exact h' F k ρ w vs hF hg hR' hv

/-- The answers told otherwise. -/
theorem AC.tell {f : FuncId} {args : List AV} {K K' : Bd → AV → St → Prop} (h : AC P nG B f args σ K') (hk : ∀ B' v v' σ' ρ' w', VR ρ' v v' → Rel B' ρ' σ' w' → K' B' v σ' → ∃ B2 v2 σ2, VR ρ' v2 v' ∧ Rel B2 ρ' σ2 w' ∧ K B2 v2 σ2) : AC P nG B f args σ K :=
  fun F k ρ w vs hF hg hR hv => (h F k ρ w vs hF hg hR hv).mono fun _ _ ⟨B', v, v', σ', ρ', h1, h2, h3, h4, h5, h6⟩ => by
    obtain ⟨B2, v2, σ2, g1, g2, g3⟩ := hk _ _ _ _ _ _ h2 h4 h6
    exact ⟨B2, v2, v', σ2, ρ', h1, g1, h3, g2, h5.any, g3⟩

end
end --all
end Go.Ev

namespace Go.Ev
noncomputable section --all

/-! ### What a call does to the world: of all that there was only M may be written -/

section
variable {P : Program} {nG : Nat}

def Bd.of (w : World) (M : Nat → Prop) : Bd := ⟨fun j => w.heap.size ≤ j ∨ M j, fun j => w.heap[j]?⟩

def Kept (w w' : World) (M : Nat → Prop) : Prop := ∀ j, j < w.heap.size → ¬ M j → w'.heap[j]? = w.heap[j]?

theorem Kept.refl (w : World) (M : Nat → Prop) : Kept w w M := fun _ _ _ => rfl
theorem Kept.trans {a b c : World} {M : Nat → Prop} (h : Kept a b M) (k : Kept b c M) (hs : a.heap.size ≤ b.heap.size) : Kept a c M := fun j hj hm => (k j (Nat.lt_of_lt_of_le hj hs) hm).trans (h j hj hm)
theorem Kept.mono {a b : World} {M M' : Nat → Prop} (h : Kept a b M) (hm : ∀ j, j < a.heap.size → M j → M' j) : Kept a b M' := fun j hj hn => h j hj fun h' => hn (hm j hj h')
theorem Kept.of_rel {B : Bd} {ρ : Rho} {σ : St} {w w' : World} (h : Rel (Bd.of w B.mod) ρ σ w') : Kept w w' B.mod := fun j hj hm => h.old j (fun h' => h'.elim (by omega) hm)
theorem Kept.of {M : Nat → Prop} {ρ : Rho} {σ : St} {w w' : World} (h : Rel (Bd.of w M) ρ σ w') : Kept w w' M := fun j hj hm => h.old j (fun h' => h'.elim (by omega) hm)

def Spec (P : Program) (f : FuncId) (vs : Array Value) (w : World) (M : Nat → Prop) (post : Value → World → Prop) : Prop :=
  ∀ (F : Fence) (k : Nat), Wd F → CallTo F k P f vs w fun e w' => ∃ v', e = .returned v' ∧ post v' w' ∧ Bel (Bd.of w M) w w' ∧ Kept w w' M

theorem Spec.mono {f : FuncId} {vs : Array Value} {w : World} {M M' : Nat → Prop} {post post' : Value → World → Prop} (h : Spec P f vs w M post) (hm : ∀ j, j < w.heap.size → M j → M' j)
    (hp : ∀ v w', post v w' → Bel (Bd.of w M) w w' → Kept w w' M → post' v w') : Spec P f vs w M' post' :=
  fun F k hF => (h F k hF).mono fun _ w' ⟨v', h1, h2, h3, h4⟩ => ⟨v', h1, hp _ _ h2 h3 h4, h3.any, h4.mono hm⟩

theorem Spec.calls {f : FuncId} {vs : Array Value} {w : World} {M : Nat → Prop} {post : Value → World → Prop} {b : Func × Code} (hb : bodyA P f = some b) (h : Spec P f vs w M post) :
    Calls P f vs w fun e w' => ∃ v', e = .returned v' ∧ post v' w' ∧ Bel (Bd.of w M) w w' ∧ Kept w w' M :=
  CallTo.calls hb (h Fence.wide 0 wd_wide)

theorem Spec.of_AC {f : FuncId} {args : List AV} {vs : Array Value} {w : World} {M : Nat → Prop} {post : Value → World → Prop} {ρ : Rho} {σ : St} {K : Bd → AV → St → Prop} (hR : Rel (Bd.of w M) ρ σ w) (hg : Glob nG ρ) (hv : VRs ρ args vs.toList)
    (h : AC P nG (Bd.of w M) f args σ K) (hk : ∀ B' v v' σ' ρ' w', VR ρ' v v' → ρ.le ρ' → Rel B' ρ' σ' w' → Bel B' w w' → K B' v σ' → post v' w' ∧ Kept w w' M) : Spec P f vs w M post :=
  fun F k hF => (h F k ρ w vs hF hg hR hv).mono fun _ w' ⟨B', v, v', σ', ρ', h1, h2, h3, h4, h5, h6⟩ => by
    obtain ⟨g1, g2⟩ := hk B' v v' σ' ρ' w' h2 h3 h4 h5 h6
    exact ⟨v', h1, g1, h5.any, g2⟩

/-- The bound stays to the end. -/
theorem Spec.of_AC1 {f : FuncId} {args : List AV} {vs : Array Value} {w : World} {M : Nat → Prop} {post : Value → World → Prop} {ρ : Rho} {σ : St} {K : AV → St → Prop} (hR : Rel (Bd.of w M) ρ σ w) (hg : Glob nG ρ) (hv : VRs ρ args vs.toList)
    (h : AC P nG (Bd.of w M) f args σ fun B' v σ' => B' = Bd.of w M ∧ K v σ') (hk : ∀ v v' σ' ρ' w', VR ρ' v v' → ρ.le ρ' → Rel (Bd.of w M) ρ' σ' w' → K v σ' → post v' w') : Spec P f vs w M post :=
  Spec.of_AC hR hg hv h fun B' v v' σ' ρ' w' h1 h2 h3 h4 h5 => by
    obtain ⟨rfl, h5⟩ := h5
    exact ⟨hk _ _ _ _ _ h1 h2 h3 h5, Kept.of h3⟩

theorem AC.of_spec {B : Bd} {σ : St} {f : FuncId} {args : List AV} {K : Bd → AV → St → Prop}
    (h : ∀ ρ w (vs : Array Value), Glob nG ρ → Rel B ρ σ w → VRs ρ args vs.toList → ∃ M post, Spec P f vs w M post ∧ ∀ v' w', post v' w' → Bel B w w' → Kept w w' M → ∃ B' v σ' ρ', VR ρ' v v' ∧ ρ.le ρ' ∧ Rel B' ρ' σ' w' ∧ K B' v σ') : AC P nG B f args σ K := by
  intro F k ρ w vs hF hg hR hv
  obtain ⟨M, post, hS, hk⟩ := h ρ w vs hg hR hv
  refine (hS F k hF).mono fun e w' ⟨v', h1, h2, h3, h4⟩ => ?_
  obtain ⟨B', v, σ', ρ', g1, g2, g3, g4⟩ := hk v' w' h2 h3.any h4
  exact ⟨B', v, v', σ', ρ', h1, g1, g2, g3, h3.any, g4⟩

theorem AC.args {B : Bd} {σ : St} {f : FuncId} {args args' : List AV} {K : Bd → AV → St → Prop} (h : AC P nG B f args' σ K) (hv : ∀ (ρ : Rho) (vs : List Value), VRs ρ args vs → VRs ρ args' vs) : AC P nG B f args σ K :=
  fun F k ρ w vs hF hg hR hvs => h F k ρ w vs hF hg hR (hv ρ _ hvs)

/-! #### The state stays true of a later world -/

theorem Rel.frame {B : Bd} {ρ : Rho} {σ : St} {w w' : World} (h : Rel B ρ σ w) (hs : w.heap.size ≤ w'.heap.size)
    (hf : ∀ b x l, σ.hp.get b = some x → x.live = true → ρ b = some l → w'.heap[l.blk]? = w.heap[l.blk]?) (ho : ∀ j, ¬ B.mod j → w'.heap[j]? = w.heap[j]?) : Rel B ρ σ w' :=
  ⟨h.dom, fun b x hb => let ⟨l, h1, h2⟩ := h.blk b x hb; ⟨l, h1, h2.keep (Rho.le_refl _) fun hx => hf b x l hb hx h1⟩, h.inj, fun j hj => h.le j (by omega), fun j hj => (ho j hj).trans (h.old j hj)⟩

theorem Rel.mod_lt {B : Bd} {ρ : Rho} {σ : St} {w : World} (h : Rel B ρ σ w) {j : Nat} (hj : ¬ B.mod j) : j < w.heap.size := by
  rcases Nat.lt_or_ge j w.heap.size with h1 | h1
  · exact h1
  · exact absurd (h.le j h1) hj

/-- Nothing that there was is written. -/
theorem Rel.kept {B : Bd} {ρ : Rho} {σ : St} {w w' : World} (h : Rel B ρ σ w) (hs : w.heap.size ≤ w'.heap.size) (hf : ∀ j, j < w.heap.size → w'.heap[j]? = w.heap[j]?) : Rel B ρ σ w' :=
  h.frame hs (fun _ _ _ hb hx hl => hf _ ((h.at_ hb hl).lt hx)) (fun j hj => hf j (h.mod_lt hj))

/-- One block alone is written. -/
theorem Rel.kept1 {B : Bd} {ρ : Rho} {σ : St} {w w' : World} (h : Rel B ρ σ w) {p : Pos} {x x' : ABlk} {l : Loc} (hp : σ.hp.get p = some x) (hx : x.wrt = true) (hl : ρ p = some l) (hm : B.mod l.blk) (hs : w.heap.size ≤ w'.heap.size)
    (hf : ∀ j, j < w.heap.size → j ≠ l.blk → w'.heap[j]? = w.heap[j]?) (hn : BlkRel ρ B w' l x') : Rel B ρ { σ with hp := σ.hp.set x' p } w' := by
  refine ⟨fun c m hc => ?_, fun c y hc => ?_, fun c d m m' y y' hm hm' hy hy' ly ly' e => ?_, fun j hj => h.le j (by omega), fun j hj => (hf j (h.mod_lt hj) (fun e => hj (e ▸ hm))).trans (h.old j hj)⟩
  · simp only [PTree.get_set]; split
    · simp
    · exact h.dom c m hc
  · simp only [PTree.get_set] at hc
    split at hc
    · rename_i e; subst e; cases hc; exact ⟨l, hl, hn⟩
    · rename_i e
      obtain ⟨m, h1, h2⟩ := h.blk c y hc
      exact ⟨m, h1, h2.keep (Rho.le_refl _) (fun ly => hf _ (h2.lt ly) (fun em => e (h.inj p c l m x y hl h1 hp hc hx ly em.symm)))⟩
  · simp only [PTree.get_set] at hy hy'
    have key : ∀ (c : Pos) (y : ABlk), (if p = c then some x' else σ.hp.get c) = some y → y.live = true → ∃ z, σ.hp.get c = some z ∧ z.live = true := by
      intro c y hc ly
      split at hc
      · rename_i e; subst e; exact ⟨x, hp, ABlk.wrt_live hx⟩
      · exact ⟨y, hc, ly⟩
    have key2 : ∀ (c : Pos) (y : ABlk), (if p = c then some x' else σ.hp.get c) = some y → y.wrt = true → ∃ z, σ.hp.get c = some z ∧ z.wrt = true := by
      intro c y hc ly
      split at hc
      · rename_i e; subst e; exact ⟨x, hp, hx⟩
      · exact ⟨y, hc, ly⟩
    obtain ⟨z, hz, lz⟩ := key2 c y hy ly
    obtain ⟨z', hz', lz'⟩ := key d y' hy' ly'
    exact h.inj c d m m' z z' hm hm' hz hz' lz lz' e

/-- Of what there was nothing is written. -/
theorem AC.of_pure {B : Bd} {σ : St} {f : FuncId} {args : List AV} {K : Bd → AV → St → Prop} {post : Value → World → Prop}
    (h : ∀ ρ w (vs : Array Value), Glob nG ρ → Rel B ρ σ w → VRs ρ args vs.toList → Spec P f vs w (fun _ => False) post) (hk : ∀ ρ v' w', post v' w' → ∃ v, VR ρ v v' ∧ K B v σ) : AC P nG B f args σ K := by
  refine AC.of_spec fun ρ w vs hg hR hv => ⟨_, _, h ρ w vs hg hR hv, fun v' w' hp hb hkp => ?_⟩
  obtain ⟨v, h1, h2⟩ := hk ρ v' w' hp
  exact ⟨B, v, σ, ρ, h1, Rho.le_refl _, hR.kept hb.size (fun j hj => hkp j hj (fun h => h)), h2⟩

/-! #### A state of few blocks -/

def setL : Nat → List (ABlk × Loc) → PTree ABlk → PTree ABlk
  | _, [], t => t
  | n, (x, _) :: l, t => setL (n + 1) l (t.set x (Pos.ofSucc n))

/-- nG package-level variables, G of them told; then the blocks of L. -/
def stL (nG : Nat) (G : List (Nat × List AV)) (L : List (ABlk × Loc)) : St := ⟨setL nG L (setRows G (deads nG .leaf)), Pos.ofSucc (nG + L.length), 0⟩

def rhoL (nG : Nat) (L : List (ABlk × Loc)) : Rho := fun b => match Nat.ble b.toNat nG with
  | true => some ⟨b.toNat - 1, 0, 0⟩
  | false => match L[b.toNat - 1 - nG]? with
    | some p => some p.2
    | none => none

theorem setL_get {g : Nat} : ∀ (L : List (ABlk × Loc)) (n : Nat) (t : PTree ABlk), (setL n L t).get (Pos.ofSucc g) = if n ≤ g then (match L[g - n]? with | some p => some p.1 | none => t.get (Pos.ofSucc g)) else t.get (Pos.ofSucc g) := by
  intro L
  induction L with
  | nil => intro n t; simp [setL]
  | cons p L ih =>
    intro n t
    obtain ⟨x, l⟩ := p
    simp only [setL, ih]
    by_cases h1 : n + 1 ≤ g
    · have e : g - n = (g - (n + 1)) + 1 := by omega
      rw [if_pos h1, if_pos (by omega), e, List.getElem?_cons_succ]
      split
      · rfl
      · rw [PTree.get_set_other _ _ _ _ (fun e => by have := Pos.ofSucc_inj e; omega)]
    · rw [if_neg h1]
      by_cases h2 : n = g
      · subst h2; simp [PTree.get_set_same]
      · rw [if_neg (by omega), PTree.get_set_other _ _ _ _ (fun e => h2 (Pos.ofSucc_inj e))]

theorem rhoL_glob {nG g : Nat} {L : List (ABlk × Loc)} (h : g < nG) : rhoL nG L (Pos.ofSucc g) = some ⟨g, 0, 0⟩ := by
  unfold rhoL
  rw [Pos.toNat_ofSucc, Nat.ble_eq_true_of_le h]
  simp

theorem rhoL_at {nG i : Nat} {L : List (ABlk × Loc)} {x : ABlk} {l : Loc} (h : L[i]? = some (x, l)) : rhoL nG L (Pos.ofSucc (nG + i)) = some l := by
  unfold rhoL
  have e : Nat.ble (Pos.ofSucc (nG + i)).toNat nG = false := by
    rw [Pos.toNat_ofSucc]
    cases hb : Nat.ble (nG + i + 1) nG with
    | false => rfl
    | true => have := Nat.le_of_ble_eq_true hb; omega
  rw [e, Pos.toNat_ofSucc, show nG + i + 1 - 1 - nG = i by omega, h]

theorem globL (nG : Nat) (L : List (ABlk × Loc)) : Glob nG (rhoL nG L) := fun _ hg => ⟨0, rhoL_glob hg⟩

theorem stL_get {nG i : Nat} {G : List (Nat × List AV)} {L : List (ABlk × Loc)} {x : ABlk} {l : Loc} (h : L[i]? = some (x, l)) : (stL nG G L).hp.get (Pos.ofSucc (nG + i)) = some x := by
  unfold stL
  simp only [setL_get]
  rw [if_pos (by omega), show nG + i - nG = i by omega, h]

/-- What the blocks are to be. -/
def BlksOk (nG : Nat) (B : Bd) (w : World) (L : List (ABlk × Loc)) : Prop :=
  (∀ (i : Nat) (x : ABlk) (l : Loc), L[i]? = some (x, l) → BlkRel (rhoL nG L) B w l x) ∧
  (∀ (i j : Nat) (x y : ABlk) (l m : Loc), L[i]? = some (x, l) → L[j]? = some (y, m) → x.wrt = true → y.live = true → l.blk = m.blk → i = j)

theorem stL_rel {nG : Nat} {G : List (Nat × List AV)} {L : List (ABlk × Loc)} {B : Bd} {w : World} (hG : ∀ p ∈ G, p.1 < nG) (hGW : ∀ p ∈ G, ∃ (arr : Array Value) (t : TypeId), w.heap[p.1]? = some (.cells arr t (0, 0)) ∧ VRs (rhoL nG L) p.2 arr.toList)
    (hGB : ∀ (i : Nat) (x : ABlk) (l : Loc), L[i]? = some (x, l) → x.wrt = true → ∀ p ∈ G, l.blk ≠ p.1) (hL : BlksOk nG B w L) (hle : ∀ j, w.heap.size ≤ j → B.mod j) (hold : ∀ j, ¬ B.mod j → w.heap[j]? = B.H0 j) : Rel B (rhoL nG L) (stL nG G L) w := by
  obtain ⟨hL1, hL2⟩ := hL
  have cases_ : ∀ b : Pos, b.toNat ≤ nG ∧ (∃ g, g < nG ∧ b = Pos.ofSucc g) ∨ nG < b.toNat ∧ ∃ i, b = Pos.ofSucc (nG + i) := by
    intro b
    have hp := b.toNat_pos
    rcases Nat.lt_or_ge nG b.toNat with h | h
    · refine .inr ⟨h, b.toNat - 1 - nG, ?_⟩
      apply Pos.toNat_inj
      rw [Pos.toNat_ofSucc]; omega
    · refine .inl ⟨h, b.toNat - 1, by omega, (ofSucc_pred b).symm⟩
  have gget : ∀ g x, g < nG → (stL nG G L).hp.get (Pos.ofSucc g) = some x → x = .dead ∨ ∃ cs, (g, cs) ∈ G ∧ x = .row cs 0 1 false false := by
    intro g x hg hx
    unfold stL at hx
    simp only [setL_get] at hx
    rw [if_neg (by omega)] at hx
    rcases setRows_get _ _ _ hx with h1 | h1
    · rw [deads_get, if_pos hg] at h1
      cases h1; exact .inl rfl
    · exact .inr h1
  have lget : ∀ i x, (stL nG G L).hp.get (Pos.ofSucc (nG + i)) = some x → ∃ l, L[i]? = some (x, l) := by
    intro i x hx
    unfold stL at hx
    simp only [setL_get] at hx
    rw [if_pos (by omega), show nG + i - nG = i by omega] at hx
    split at hx
    · rename_i p hp; cases hx; exact ⟨p.2, hp⟩
    · rcases setRows_get _ _ _ hx with h1 | ⟨cs, h1, _⟩
      · rw [deads_get, if_neg (by omega), PTree.get_leaf] at h1; cases h1
      · exact absurd (hG _ h1) (by simp)
  refine ⟨fun b l hb => ?_, fun b x hb => ?_, fun b c l m x y hl hm hx hy lx ly e => ?_, hle, hold⟩
  · rcases cases_ b with ⟨_, g, hg, rfl⟩ | ⟨hgt, i, rfl⟩
    · unfold stL
      simp only [setL_get]
      rw [if_neg (by omega)]
      refine setRows_keep _ _ ?_
      rw [deads_get, if_pos hg]; simp
    · unfold rhoL at hb
      rw [Pos.toNat_ofSucc] at hb
      split at hb
      · rename_i h1; have := Nat.le_of_ble_eq_true h1; omega
      · rw [show nG + i + 1 - 1 - nG = i by omega] at hb
        split at hb
        · rename_i p hp
          rw [stL_get (x := p.1) (l := p.2) hp]; simp
        · cases hb
  · rcases cases_ b with ⟨_, g, hg, rfl⟩ | ⟨_, i, rfl⟩
    · rcases gget g x hg hb with rfl | ⟨cs, h1, rfl⟩
      · exact ⟨_, rhoL_glob hg, trivial⟩
      · obtain ⟨arr, t, h2, h3⟩ := hGW _ h1
        refine ⟨⟨g, 0, 0⟩, rhoL_glob hg, arr, t, 0, 0, h2, ?_, (fun _ => rfl), (fun e => by cases e), (fun e => by cases e), fun i x v hx hv => ?_⟩
        · have := h3.1; simp only [Nat.zero_add, Nat.zero_mul, Nat.add_zero]; rw [this]; simp
        · rw [Nat.zero_add] at hv
          exact h3.2 i x v hx (by simpa using hv)
    · obtain ⟨l, hl⟩ := lget i x hb
      exact ⟨l, rhoL_at hl, hL1 i x l hl⟩
  · rcases cases_ b with ⟨_, g, hg, rfl⟩ | ⟨_, i, rfl⟩
    · rcases gget g x hg hx with rfl | ⟨cs, _, rfl⟩ <;> cases lx
    · obtain ⟨l', hl'⟩ := lget i x hx
      rw [rhoL_at hl'] at hl; cases hl
      have hge := hGB i x l hl' lx
      rcases cases_ c with ⟨_, g, hg, rfl⟩ | ⟨_, j, rfl⟩
      · rw [rhoL_glob hg] at hm; cases hm
        rcases gget g y hg hy with rfl | ⟨cs, h1, rfl⟩
        · cases ly
        · exact absurd e (hge _ h1)
      · obtain ⟨m', hm'⟩ := lget j y hy
        rw [rhoL_at hm'] at hm; cases hm
        rw [hL2 i j x y l m hl' hm' lx ly e]

/-- A state of no block. -/
theorem rel_none {nG : Nat} (w : World) (M : Nat → Prop) : Rel (Bd.of w M) (rhoL nG []) (stL nG [] []) w :=
  stL_rel (by simp) (by simp) (by simp) ⟨fun i x m hi => by simp at hi, fun i j x y m m' hi => by simp at hi⟩ (fun j hj => .inl hj) (fun j hj => rfl)

theorem not_mod {w : World} {b : Nat} (h : b < w.heap.size) : ¬ (Bd.of w (fun _ => False)).mod b := fun hm => hm.elim (fun h' => by omega) id

/-- No number of the state is beyond. -/
theorem stL_lt {nG : Nat} {G : List (Nat × List AV)} {L : List (ABlk × Loc)} (hG : ∀ p ∈ G, p.1 < nG) (b : Pos) (hb : (stL nG G L).hp.get b ≠ none) : b.toNat < nG + L.length + 1 := by
  rw [← ofSucc_pred b] at hb ⊢
  rw [Pos.toNat_ofSucc]
  generalize b.toNat - 1 = g at hb
  rcases Nat.lt_or_ge g (nG + L.length) with h | h
  · omega
  · exfalso
    apply hb
    unfold stL
    simp only [setL_get]
    rw [if_pos (by omega), List.getElem?_eq_none (by omega)]
    simp only
    cases hx : (setRows G (deads nG .leaf)).get (Pos.ofSucc g) with
    | none => rfl
    | some x =>
      rcases setRows_get _ _ _ hx with h1 | ⟨cs, h1, _⟩
      · rw [deads_get, if_neg (by omega), PTree.get_leaf] at h1; cases h1
      · have := hG _ h1; simp only at this; omega

/-- A row of cells that speak of no block. -/
theorem BlkRel.re {ρ ρ' : Rho} {B B' : Bd} {w : World} {l : Loc} {cells : List AV} {t sz : Nat} {opn wr : Bool} (h : BlkRel ρ B w l (.row cells t sz opn wr)) (hv : ∀ x ∈ cells, ∀ v, VR ρ x v → VR ρ' x v) (hm : wr = true → B'.mod l.blk) : BlkRel ρ' B' w l (.row cells t sz opn wr) := by
  obtain ⟨arr, tt, lo, hi, h1, h2, h3, h4, h5, h6⟩ := h
  exact ⟨arr, tt, lo, hi, h1, h2, h3, hm, h5, fun i x v hx hv' => hv x (List.mem_of_getElem? hx) v (h6 i x v hx hv')⟩

/-- A value that speaks of no block. -/
def AV.free : Nat → AV → Bool
  | 0, _ => false
  | n + 1, x => match x with
    | .und | .bool _ | .int _ _ | .flt _ | .str _ | .nilp | .nils | .sle | .nilm | .nilf | .nili | .val _ => true
    | .agg cs => cs.all (AV.free n)
    | .tup cs => cs.all (AV.free n)
    | .ifc _ v => AV.free n v
    | _ => false

theorem VR.free {ρ ρ' : Rho} : ∀ (n : Nat) {x : AV} {v : Value}, x.free n = true → VR ρ x v → VR ρ' x v := by
  intro n
  induction n with
  | zero => intro x v h; cases h
  | succ n ih =>
    intro x v h hv
    cases hv with
    | und => exact .und _
    | bool => exact .bool _
    | int => exact .int _ _
    | flt => exact .flt _
    | str e => exact .str e
    | nilp => exact .nilp
    | nils => exact .nils
    | sle a c => exact .sle a c
    | nilm => exact .nilm
    | nilf => exact .nilf
    | nili => exact .nili
    | val => exact .val _
    | agg e hh => exact .agg e fun i x v hx hv => ih (by simp only [AV.free, List.all_eq_true] at h; exact h x (List.mem_of_getElem? hx)) (hh i x v hx hv)
    | tup e hh => exact .tup e fun i x v hx hv => ih (by simp only [AV.free, List.all_eq_true] at h; exact h x (List.mem_of_getElem? hx)) (hh i x v hx hv)
    | ifc hh => exact .ifc (ih h hh)
    | _ => cases h

/-- A function of its arguments alone, by a state of no block. -/
theorem Spec.pure {P : Program} {nG : Nat} {f : FuncId} {args : List AV} {vs : Array Value} {w : World} {K : AV → Prop} (hv : VRs (rhoL nG []) args vs.toList) (h : AC P nG (Bd.of w (fun _ => False)) f args (stL nG [] []) fun B' v _ => B' = Bd.of w (fun _ => False) ∧ K v)
    (hk : ∀ v, K v → v.free 9 = true) : Spec P f vs w (fun _ => False) fun v' _ => ∃ v, K v ∧ ∀ ρ, VR ρ v v' :=
  Spec.of_AC1 (K := fun v _ => K v) (rel_none w _) (globL nG []) hv h fun v v' σ' ρ' w' h1 _ _ h2 => ⟨v, h2, fun ρ => h1.free 9 (hk v h2)⟩

/-- So it is in any state. -/
theorem AC.pure {P : Program} {nG : Nat} {B : Bd} {σ : St} {f : FuncId} {args : List AV} {K : AV → Prop} {KK : Bd → AV → St → Prop} (ha : ∀ x ∈ args, x.free 9 = true) (h : ∀ B, AC P nG B f args (stL nG [] []) fun B' v _ => B' = B ∧ K v)
    (hk : ∀ v, K v → v.free 9 = true) (hkk : ∀ v, K v → KK B v σ) : AC P nG B f args σ KK :=
  AC.of_pure (fun _ w _ _ _ hv => Spec.pure ⟨hv.1, fun i x v hx hv' => (hv.2 i x v hx hv').free 9 (ha x (List.mem_of_getElem? hx))⟩ (h (Bd.of w (fun _ => False))) hk) fun ρ _ _ ⟨v, h1, h2⟩ => ⟨v, h2 ρ, hkk v h1⟩

theorem VR.int_any {ρ ρ' : Rho} {k : IntKind} {n : Int} {v : Value} (h : VR ρ (.int k n) v) : VR ρ' (.int k n) v := by cases h; exact .int _ _

end
end --all
end Go.Ev

namespace Go.Ev
noncomputable section --all

/-! ### Steps, as the tool prints them -/

def tmS : List (Nat × AV) → PTree AV → PTree AV
  | [], t => t
  | (i, v) :: l, t => tmS l (t.set v (Pos.ofSucc i))
def tmL (N : Nat) (l : List (Nat × AV)) : Tm := ⟨N, tmS l .leaf⟩
def hpS : List (Nat × ABlk) → PTree ABlk → PTree ABlk
  | [], t => t
  | (i, v) :: l, t => hpS l (t.set v (Pos.ofSucc i))
/-- nG package-level variables, G of them told; the other blocks by number; the next number. -/
def stS (nG : Nat) (G : List (Nat × List AV)) (l : List (Nat × ABlk)) (nx : Nat) : St := ⟨hpS l (setRows G (deads nG .leaf)), Pos.ofSucc nx, 0⟩

theorem hpS_get {b : Pos} : ∀ (l : List (Nat × ABlk)) (t : PTree ABlk), (hpS l t).get b ≠ none → t.get b ≠ none ∨ ∃ p ∈ l, b = Pos.ofSucc p.1 := by
  intro l
  induction l with
  | nil => intro t h; exact .inl h
  | cons p l ih =>
    intro t h
    obtain ⟨i, v⟩ := p
    simp only [hpS] at h
    rcases ih _ h with h1 | ⟨q, h1, h2⟩
    · rw [PTree.get_set] at h1
      split at h1
      · rename_i e; exact .inr ⟨(i, v), List.mem_cons_self, e.symm⟩
      · exact .inl h1
    · exact .inr ⟨q, List.mem_cons_of_mem _ h1, h2⟩

/-- All numbers of the state are below N. -/
theorem stS_lt {nG N : Nat} {G : List (Nat × List AV)} {l : List (Nat × ABlk)} {nx : Nat} (hG : ∀ p ∈ G, p.1 < nG) (hN : nG < N) (hl : ∀ p ∈ l, p.1 + 1 < N) (b : Pos) (hb : (stS nG G l nx).hp.get b ≠ none) : b.toNat < N := by
  rcases hpS_get _ _ hb with h | ⟨p, h1, rfl⟩
  · rw [← ofSucc_pred b] at h ⊢
    rw [Pos.toNat_ofSucc]
    generalize b.toNat - 1 = g at h
    cases hx : (setRows G (deads nG .leaf)).get (Pos.ofSucc g) with
    | none => exact absurd hx h
    | some x =>
      rcases setRows_get _ _ _ hx with h1 | ⟨cs, h1, _⟩
      · rw [deads_get] at h1
        split at h1
        · omega
        · rw [PTree.get_leaf] at h1; cases h1
      · have := hG _ h1; simp only at this; omega
  · rw [Pos.toNat_ofSucc]; exact hl p h1

def codeOf (fn : Func) : Code := match fn.body with
  | some c => c
  | none => .skip

def cf0 : CallF := fun _ _ _ => none
def yf0 : YieldF := fun _ _ _ => none

section
variable {P : Program} {nG N : Nat} {B : Bd} {tm : Tm} {σ : St} {Q : Bd → Rz → Prop} {ops : Array Oper} {K : Bd → Tm → St → Prop}

theorem cf0_ok : CfOk P nG B cf0 := by intro f args σ v σ' h; cases h
theorem cf0_nice : CfNice cf0 := by intro T f args σ v σ' _ h; cases h
theorem yf0_ok : YfOk P nG B yf0 := by intro f args σ v σ' h; cases h

theorem AW.runX {cf : CallF} (hcf : CfOk P nG B cf) {id : Nat} {tm' : Tm} {σ' : St} (h : seqK P nG cf yf0 ops.toList ops.toList tm σ = some (tm', σ')) (hq : Q B (.nrm tm' σ')) : AW P nG N B (.region id ops false) tm σ Q := by
  have e := seqK_eq P nG cf yf0 ops ops.size 0 (by simp) tm σ
  rw [List.drop_zero] at e
  rw [e, ← List.range_eq_range'] at h
  refine AW.region ?_
  have := AO.run (K := nrmQ Q) (N := N) hcf yf0_ok (List.range ops.size) [] h (AO.nil hq)
  rwa [List.append_nil] at this

/-- Of the slots some alone are kept. -/
def keepR (l : List Nat) (r : Option (Tm × St)) : Option (Tm × St) := match r with
  | some (tm, σ) => some (tm.keep l, σ)
  | none => none

theorem keepR_some {l : List Nat} {r : Option (Tm × St)} {tm' : Tm} {σ' : St} (h : keepR l r = some (tm', σ')) : ∃ tm1, r = some (tm1, σ') ∧ tm' = tm1.keep l := by
  unfold keepR at h
  split at h
  · rename_i tm1 σ1
    simp only [Option.some.injEq, Prod.mk.injEq] at h
    obtain ⟨rfl, rfl⟩ := h
    exact ⟨tm1, rfl, rfl⟩
  · cases h

/-- A continuation that takes less of the slots. -/
def keepQ (l : List Nat) (Q : Bd → Rz → Prop) : Bd → Rz → Prop := fun B r => match r with
  | .nrm tm σ => Q B (.nrm (tm.keep l) σ)
  | r => Q B r

theorem keepQ_nrm {l : List Nat} {tm' : Tm} (ht : tm.keep l = tm') (h : Q B (.nrm tm' σ)) : keepQ l Q B (.nrm tm σ) := by
  subst ht
  exact h

theorem AW.keepOut {c : Code} (l : List Nat) (h : AW P nG N B c tm σ (keepQ l Q)) : AW P nG N B c tm σ Q := by
  intro F k ρ w a K hF hr hN hg hR ht hd hK
  refine h F k ρ w a K hF hr hN hg hR ht hd fun B' r hq => ?_
  cases r with
  | nrm tm' σ' =>
    intro a' w' ρ' ht' hd' hle hR' hB
    exact hK B' _ hq a' w' ρ' (ht'.keep l) hd' hle hR' hB
  | ex id tm' σ' => exact hK B' _ hq
  | ret tm' σ' => exact hK B' _ hq

/-- The next number set anew. -/
def nxQ (n : Pos) (Q : Bd → Rz → Prop) : Bd → Rz → Prop := fun B r => match r with
  | .nrm tm σ => Q B (.nrm tm { σ with nx := n })
  | r => Q B r

theorem nxQ_nrm {n : Pos} {σ' : St} (hs : { σ with nx := n } = σ') (h : Q B (.nrm tm σ')) : nxQ n Q B (.nrm tm σ) := by
  subst hs
  exact h
theorem nxQ_ex {n : Pos} {id : Nat} (h : Q B (.ex id tm σ)) : nxQ n Q B (.ex id tm σ) := h
theorem nxQ_ret {n : Pos} (h : Q B (.ret tm σ)) : nxQ n Q B (.ret tm σ) := h

theorem AW.nx {c : Code} (n : Pos) (h : AW P nG N B c tm { σ with nx := n } Q) : AW P nG N B c tm σ Q :=
  fun F k ρ w a K hF hr hN hg hR ht hd hK => h F k ρ w a K hF hr hN hg (hR.nxt n) ht hd hK

theorem AW.nxOut {c : Code} (n : Pos) (h : AW P nG N B c tm σ (nxQ n Q)) : AW P nG N B c tm σ Q := by
  intro F k ρ w a K hF hr hN hg hR ht hd hK
  refine h F k ρ w a K hF hr hN hg hR ht hd fun B' r hq => ?_
  cases r with
  | nrm tm' σ' =>
    intro a' w' ρ' ht' hd' hle hR' hB
    exact hK B' _ hq a' w' ρ' ht' hd' hle (hR'.nxt n) hB
  | ex id tm' σ' => exact hK B' _ hq
  | ret tm' σ' => exact hK B' _ hq

/-- A loop, some slots alone kept, the next number set anew in each round. -/
theorem AW.loopK {x : Code} (l : List Nat) (n : Pos) (I : Nat → Bd → Tm → St → Prop) (hI : ∀ m B tm σ, I m B tm σ → AW P nG N B x tm σ (keepQ l (nxQ n (loopQ I m Q)))) {m : Nat} (h : I m B (tm.keep l) { σ with nx := n }) : AW P nG N B (.loop x) tm σ Q :=
  AW.keep l (AW.nx n (AW.loop I (fun m B tm σ h => AW.keepOut l (AW.nxOut n (AW.mono (hI m B tm σ h) fun B' r hq => by cases r <;> exact hq))) h))

/-- A loop that is left in its first round. -/
theorem AW.loop0 {x : Code} (h : AW P nG N B x tm σ (loopQ (fun _ _ _ _ => False) 0 Q)) : AW P nG N B (.loop x) tm σ Q := by
  refine AW.loop (fun _ B' tm' σ' => B' = B ∧ tm' = tm ∧ σ' = σ) (fun m B' tm' σ' hi => ?_) (m := 0) ⟨rfl, rfl, rfl⟩
  obtain ⟨rfl, rfl, rfl⟩ := hi
  refine h.mono fun B2 r hq => ?_
  cases r with
  | nrm tm2 σ2 => obtain ⟨_, _, h3⟩ := hq; exact h3.elim
  | ex id tm2 σ2 => exact hq
  | ret tm2 σ2 => exact hq

theorem keepQ_ex {l : List Nat} {id : Nat} (h : Q B (.ex id tm σ)) : keepQ l Q B (.ex id tm σ) := h
theorem keepQ_ret {l : List Nat} (h : Q B (.ret tm σ)) : keepQ l Q B (.ret tm σ) := h

/-- A region in the text's order, no call in it. -/
theorem AW.run1 (l : List Nat) {id : Nat} {tm' : Tm} {σ' : St} (h : keepR l (seqK P nG cf0 yf0 ops.toList ops.toList tm σ) = some (tm', σ')) (hq : Q B (.nrm tm' σ')) : AW P nG N B (.region id ops false) tm σ Q := by
  obtain ⟨tm1, h1, rfl⟩ := keepR_some h
  exact AW.keepOut l (AW.runX cf0_ok h1 hq)

theorem AW.drawX (hm : P.follows .mixedOrders = true) {cf : CallF} (hn : CfNice cf) (hcf : CfOk P nG B cf) {id : Nat} {tm' : Tm} {σ' : St} (h : drawK P nG cf ops tm σ = some (tm', σ')) (hq : Q B (.nrm tm' σ')) : AW P nG N B (.region id ops true) tm σ Q :=
  AW.draw hm hn hcf (by rw [drawK_eq] at h; exact h) hq

/-- A region that draws, no call in it. -/
theorem AW.draw1 (hm : P.follows .mixedOrders = true) (l : List Nat) {id : Nat} {tm' : Tm} {σ' : St} (h : keepR l (drawK P nG cf0 ops tm σ) = some (tm', σ')) (hq : Q B (.nrm tm' σ')) : AW P nG N B (.region id ops true) tm σ Q := by
  obtain ⟨tm1, h1, rfl⟩ := keepR_some h
  exact AW.keepOut l (AW.drawX hm cf0_nice cf0_ok h1 hq)

/-- Some operations of a region, no call among them. -/
theorem AO.run1 {tm' : Tm} {σ' : St} (l1 l2 : List Nat) {l : List Nat} (hl : l = l1 ++ l2) (h : seqOps P nG cf0 yf0 ops l1 tm σ = some (tm', σ')) (h2 : AO P nG N B ops l2 tm' σ' K) : AO P nG N B ops l tm σ K := by
  subst hl
  exact AO.run cf0_ok yf0_ok l1 l2 h h2

theorem AW.regionL {id : Nat} (l : List Nat) (hl : List.range ops.size = l) (h : AO P nG N B ops l tm σ (nrmQ Q)) : AW P nG N B (.region id ops false) tm σ Q := by
  subst hl
  exact AW.region h

/-! #### Indexes that are not known by number -/

theorem indexAddr_run {o : Oper} {nid : Pos} {t e : TypeId} {x i : Operand} {b : Pos} {off len cap sz n : Nat} {opn : Bool} {k : IntKind} (hop : o.op = .indexAddr t x i) (hx : evA nG tm x = .sl b off len cap opn) (hi : evA nG tm i = .int k (.ofNat n))
    (hu : P.underlying t = some (.slice e)) (hs : sizeT P e = some sz) (hlt : n < len) : (deed P o (evA nG tm)).run nid σ = some (.ptr b (off + n * sz), σ, false) := by
  obtain ⟨dst, op, ty, pos, after, guard⟩ := o
  simp only at hop
  subst hop
  have hb : Nat.blt n len = true := Nat.ble_eq_true_of_le hlt
  simp only [deed, hx, hi, indexAddrA, hu, hs, hb, Deed.ofOption, Deed.run]

theorem loadCell_run {o : Oper} {nid : Pos} {t : TypeId} {x : Operand} {b : Pos} {off : Nat} {cells : List AV} {t' : TypeId} {sz : Nat} {opn wr : Bool} {v : AV} (hop : o.op = .load t x) (hx : evA nG tm x = .ptr b off)
    (hb : σ.hp.get b = some (.row cells t' sz opn wr)) (ha : aggT P t = some false) (hv : cells[off]? = some v) : (deed P o (evA nG tm)).run nid σ = some (v, σ, false) := by
  obtain ⟨dst, op, ty, pos, after, guard⟩ := o
  simp only at hop
  subst hop
  simp only [deed, hx, loadA, ha, Deed.read, Deed.run, getAll, hb, hv, setAll]

theorem loadAgg_run {o : Oper} {nid : Pos} {t : TypeId} {x : Operand} {b : Pos} {off n : Nat} {cells vs : List AV} {t' : TypeId} {sz : Nat} {opn wr : Bool} (hop : o.op = .load t x) (hx : evA nG tm x = .ptr b off)
    (hb : σ.hp.get b = some (.row cells t' sz opn wr)) (ha : aggT P t = some true) (hs : sizeT P t = some n) (hle : off + n ≤ cells.length) (hv : (cells.drop off).take n = vs) : (deed P o (evA nG tm)).run nid σ = some (.agg vs, σ, false) := by
  obtain ⟨dst, op, ty, pos, after, guard⟩ := o
  simp only at hop
  subst hop
  simp only [deed, hx, loadA, ha, hs, Deed.read, Deed.run, getAll, hb, Nat.ble_eq_true_of_le hle, setAll, hv]

theorem AO.index {i : Nat} {l : List Nat} {o : Oper} {t e : TypeId} {x j : Operand} {b : Pos} {off len cap sz n : Nat} {opn : Bool} {k : IntKind} (ho : ops[i]? = some o) (hw : wantA ops tm o = some true) (hop : o.op = .indexAddr t x j) (hx : evA nG tm x = .sl b off len cap opn)
    (hi : evA nG tm j = .int k (.ofNat n)) (hu : P.underlying t = some (.slice e)) (hs : sizeT P e = some sz) (hlt : n < len) (h : AO P nG N B ops l (tm.put o.dst (.ptr b (off + n * sz))) σ K) : AO P nG N B ops (i :: l) tm σ K :=
  AO.deed ho hw (indexAddr_run hop hx hi hu hs hlt) h

theorem AO.loadCell {i : Nat} {l : List Nat} {o : Oper} {t : TypeId} {x : Operand} {b : Pos} {off : Nat} {cells : List AV} {t' : TypeId} {sz : Nat} {opn wr : Bool} {v : AV} (ho : ops[i]? = some o) (hw : wantA ops tm o = some true) (hop : o.op = .load t x) (hx : evA nG tm x = .ptr b off)
    (hb : σ.hp.get b = some (.row cells t' sz opn wr)) (ha : aggT P t = some false) (hv : cells[off]? = some v) (h : AO P nG N B ops l (tm.put o.dst v) σ K) : AO P nG N B ops (i :: l) tm σ K :=
  AO.deed ho hw (loadCell_run hop hx hb ha hv) h

theorem AO.loadAgg {i : Nat} {l : List Nat} {o : Oper} {t : TypeId} {x : Operand} {b : Pos} {off n : Nat} {cells vs : List AV} {t' : TypeId} {sz : Nat} {opn wr : Bool} (ho : ops[i]? = some o) (hw : wantA ops tm o = some true) (hop : o.op = .load t x) (hx : evA nG tm x = .ptr b off)
    (hb : σ.hp.get b = some (.row cells t' sz opn wr)) (ha : aggT P t = some true) (hs : sizeT P t = some n) (hle : off + n ≤ cells.length) (hv : (cells.drop off).take n = vs) (h : AO P nG N B ops l (tm.put o.dst (.agg vs)) σ K) : AO P nG N B ops (i :: l) tm σ K :=
  AO.deed ho hw (loadAgg_run hop hx hb ha hs hle hv) h

/-! #### Regions that draw, operation by operation -/

/-- The operations of l, in that order; what has been looked at and written ahead of them. -/
def DO (P : Program) (nG : Nat) (ops : Array Oper) (base : Pos) (lim : Nat) (l : List Nat) (tm : Tm) (σ : St) (fps : List (Nat × FP)) (K : Tm → St → List (Nat × FP) → Prop) : Prop :=
  ∃ tm' σ' fps', drawOps P nG cf0 ops base lim l tm σ = some (tm', σ', fps') ∧ K tm' σ' (fps ++ fps')

variable {base : Pos} {lim : Nat} {fps : List (Nat × FP)} {KD : Tm → St → List (Nat × FP) → Prop}

theorem DO.nil (h : KD tm σ fps) : DO P nG ops base lim [] tm σ fps KD := ⟨tm, σ, [], rfl, by rw [List.append_nil]; exact h⟩

theorem drawOps_append {cf : CallF} : ∀ (l1 l2 : List Nat) (tm : Tm) (σ : St) (tm1 tm2 : Tm) (σ1 σ2 : St) (f1 f2 : List (Nat × FP)), drawOps P nG cf ops base lim l1 tm σ = some (tm1, σ1, f1) → drawOps P nG cf ops base lim l2 tm1 σ1 = some (tm2, σ2, f2) →
    drawOps P nG cf ops base lim (l1 ++ l2) tm σ = some (tm2, σ2, f1 ++ f2) := by
  intro l1
  induction l1 with
  | nil =>
    intro l2 tm σ tm1 tm2 σ1 σ2 f1 f2 h1 h2
    simp only [drawOps, Option.some.injEq, Prod.mk.injEq] at h1
    obtain ⟨rfl, rfl, rfl⟩ := h1
    exact h2
  | cons i l1 ih =>
    intro l2 tm σ tm1 tm2 σ1 σ2 f1 f2 h1 h2
    simp only [drawOps, List.cons_append] at h1 ⊢
    split at h1
    · cases h1
    · rename_i tm' σ' fp hd
      split at h1
      · cases h1
      · rename_i tm'' σ'' fps hds
        simp only [Option.some.injEq, Prod.mk.injEq] at h1
        obtain ⟨rfl, rfl, rfl⟩ := h1
        rw [ih l2 _ _ _ _ _ _ _ _ hds h2]
        rfl

theorem DO.run {tm1 : Tm} {σ1 : St} {f1 : List (Nat × FP)} (l1 l2 : List Nat) {l : List Nat} (hl : l = l1 ++ l2) (h : drawOps P nG cf0 ops base lim l1 tm σ = some (tm1, σ1, f1)) (h2 : DO P nG ops base lim l2 tm1 σ1 (fps ++ f1) KD) : DO P nG ops base lim l tm σ fps KD := by
  subst hl
  obtain ⟨tm', σ', fps', h3, h4⟩ := h2
  exact ⟨tm', σ', _, drawOps_append l1 l2 _ _ _ _ _ _ _ _ h h3, by rw [← List.append_assoc]; exact h4⟩

theorem DO.deed {i : Nat} {l : List Nat} {o : Oper} {v : AV} {σ1 : St} {u : Bool} {fp : FP} (ho : ops[i]? = some o) (hw : wantA ops tm o = some true) (hc : isCall o = false) (hd : (deed P o (evA nG tm)).run (addPos base i) σ = some (v, σ1, u)) (hf : (deed P o (evA nG tm)).fp (addPos base i) σ = fp)
    (h2 : DO P nG ops base lim l (tm.put o.dst v) σ1 (fps ++ [(i, fp)]) KD) : DO P nG ops base lim (i :: l) tm σ fps KD := by
  obtain ⟨tm', σ', fps', h3, h4⟩ := h2
  refine ⟨tm', σ', (i, fp) :: fps', ?_, by rw [List.append_assoc] at h4; exact h4⟩
  simp only [drawOps, drawOp, ho, hw, hc, hd, hf, h3]

theorem DO.index {i : Nat} {l : List Nat} {o : Oper} {t e : TypeId} {x j : Operand} {b : Pos} {off len cap sz n : Nat} {opn : Bool} {k : IntKind} (ho : ops[i]? = some o) (hw : wantA ops tm o = some true) (hop : o.op = .indexAddr t x j) (hx : evA nG tm x = .sl b off len cap opn)
    (hi : evA nG tm j = .int k (.ofNat n)) (hu : P.underlying t = some (.slice e)) (hs : sizeT P e = some sz) (hlt : n < len) (h2 : DO P nG ops base lim l (tm.put o.dst (.ptr b (off + n * sz))) σ (fps ++ [(i, FP.nil)]) KD) : DO P nG ops base lim (i :: l) tm σ fps KD := by
  refine DO.deed ho hw ?_ (indexAddr_run hop hx hi hu hs hlt) ?_ h2
  · unfold isCall; rw [hop]
  · obtain ⟨dst, op, ty, pos, after, guard⟩ := o
    simp only at hop
    subst hop
    have hb : Nat.blt n len = true := Nat.ble_eq_true_of_le hlt
    simp only [Go.Ev.deed, hx, hi, indexAddrA, hu, hs, hb, Deed.ofOption, Deed.fp]

theorem DO.loadCell {i : Nat} {l : List Nat} {o : Oper} {t : TypeId} {x : Operand} {b : Pos} {off : Nat} {cells : List AV} {t' : TypeId} {sz : Nat} {opn wr : Bool} {v : AV} (ho : ops[i]? = some o) (hw : wantA ops tm o = some true) (hop : o.op = .load t x) (hx : evA nG tm x = .ptr b off)
    (hb : σ.hp.get b = some (.row cells t' sz opn wr)) (ha : aggT P t = some false) (hv : cells[off]? = some v) (h2 : DO P nG ops base lim l (tm.put o.dst v) σ (fps ++ [(i, ⟨[b], [], false, false⟩)]) KD) : DO P nG ops base lim (i :: l) tm σ fps KD := by
  refine DO.deed ho hw ?_ (loadCell_run hop hx hb ha hv) ?_ h2
  · unfold isCall; rw [hop]
  · obtain ⟨dst, op, ty, pos, after, guard⟩ := o
    simp only at hop
    subst hop
    simp only [Go.Ev.deed, hx, loadA, ha, Deed.read, Deed.fp, getAll, hb, hv, List.map_nil, List.append_nil]

theorem DO.loadAgg {i : Nat} {l : List Nat} {o : Oper} {t : TypeId} {x : Operand} {b : Pos} {off n : Nat} {cells vs : List AV} {t' : TypeId} {sz : Nat} {opn wr : Bool} (ho : ops[i]? = some o) (hw : wantA ops tm o = some true) (hop : o.op = .load t x) (hx : evA nG tm x = .ptr b off)
    (hb : σ.hp.get b = some (.row cells t' sz opn wr)) (ha : aggT P t = some true) (hs : sizeT P t = some n) (hle : off + n ≤ cells.length) (hv : (cells.drop off).take n = vs) (h2 : DO P nG ops base lim l (tm.put o.dst (.agg vs)) σ (fps ++ [(i, ⟨[b], [], false, false⟩)]) KD) : DO P nG ops base lim (i :: l) tm σ fps KD := by
  refine DO.deed ho hw ?_ (loadAgg_run hop hx hb ha hs hle hv) ?_ h2
  · unfold isCall; rw [hop]
  · obtain ⟨dst, op, ty, pos, after, guard⟩ := o
    simp only at hop
    subst hop
    simp only [Go.Ev.deed, hx, loadA, ha, hs, Deed.read, Deed.fp, getAll, hb, Nat.ble_eq_true_of_le hle, List.map_nil, List.append_nil]

/-- What a region that draws is to come to. -/
def drawQ (ms : List Nat) (lim : Nat) (B : Bd) (Q : Bd → Rz → Prop) (tm : Tm) (σ : St) (fps : List (Nat × FP)) : Prop := pairsOk ms lim fps = true ∧ Q B (.nrm tm σ)

theorem drawQ_mk {ms : List Nat} (l : List Nat) {tm' : Tm} (hp : pairsOk ms lim fps = true) (ht : tm.keep l = tm') (h : Q B (.nrm tm' σ)) : drawQ ms lim B (keepQ l Q) tm σ fps := by
  subst ht
  exact ⟨hp, h⟩

theorem AW.drawL (hm : P.follows .mixedOrders = true) (kl : List Nat) (ord : List Nat) {id : Nat} {top : Pos} {limN : Nat} {σ0 : St} (hord : orderK ops = ord) (htop : addPos σ.nx ops.size = top) (hlim : top.toNat = limN) (hlo : Nat.ble σ.lo σ.nx.toNat = true) (hok : drawOk ops ord = true)
    (hσ : { σ with nx := top } = σ0) (h : DO P nG ops σ.nx limN ord tm σ0 [] (drawQ (masks ops.toList) limN B (keepQ kl Q))) : AW P nG N B (.region id ops true) tm σ Q := by
  subst hσ; subst htop; subst hlim; subst hord
  obtain ⟨tm', σ', fps', h1, h2, h3⟩ := h
  refine AW.keepOut kl (AW.draw hm cf0_nice cf0_ok (tm' := tm') (σ' := σ') ?_ h3)
  unfold drawRegion
  rw [orderK_eq] at hok h1
  rw [List.nil_append] at h2
  simp only [hlo, hok, h1, h2]

/-- Calls by the evaluator alone. -/
def X00 : ExtF := fun _ => none
theorem X00_ok : ExtOk P nG B X00 := fun _ _ h => by cases h
theorem X00_nice : ExtNice X00 := fun _ _ h => by cases h

theorem evKF_ok (hm : P.follows .mixedOrders = true) {X : ExtF} (hX : ExtOk P nG B X) (hN : ExtNice X) (n : Nat) : CfOk P nG B (evKF P nG X n) := by
  rw [evKF_eq]
  exact evF_ok hm hX hN n
theorem evKF_nice {X : ExtF} (hN : ExtNice X) (n : Nat) : CfNice (evKF P nG X n) := by
  rw [evKF_eq]
  exact callW_nice hN (evC_nice hN n)

theorem AW.runN (hm : P.follows .mixedOrders = true) (n : Nat) (l : List Nat) {id : Nat} {tm' : Tm} {σ' : St} (h : keepR l (seqK P nG (evKF P nG X00 n) yf0 ops.toList ops.toList tm σ) = some (tm', σ')) (hq : Q B (.nrm tm' σ')) : AW P nG N B (.region id ops false) tm σ Q := by
  obtain ⟨tm1, h1, rfl⟩ := keepR_some h
  exact AW.keepOut l (AW.runX (evKF_ok hm X00_ok X00_nice n) h1 hq)

theorem AW.drawN (hm : P.follows .mixedOrders = true) (n : Nat) (l : List Nat) {id : Nat} {tm' : Tm} {σ' : St} (h : keepR l (drawK P nG (evKF P nG X00 n) ops tm σ) = some (tm', σ')) (hq : Q B (.nrm tm' σ')) : AW P nG N B (.region id ops true) tm σ Q := by
  obtain ⟨tm1, h1, rfl⟩ := keepR_some h
  exact AW.keepOut l (AW.drawX hm (evKF_nice X00_nice n) (evKF_ok hm X00_ok X00_nice n) h1 hq)

theorem AW.condT {c : Operand} {x y : Code} {e : Bool} (he : evA nG tm c = .bool e) (hb : e = true) (h : AW P nG N B x tm σ Q) : AW P nG N B (.cond c x y) tm σ Q := by
  subst hb
  exact AW.cond (b := true) he h

theorem AW.condF {c : Operand} {x y : Code} {e : Bool} (he : evA nG tm c = .bool e) (hb : e = false) (h : AW P nG N B y tm σ Q) : AW P nG N B (.cond c x y) tm σ Q := by
  subst hb
  exact AW.cond (b := false) he h

theorem AW.condE {c : Operand} {x y : Code} {e : Bool} (he : evA nG tm c = .bool e) (h : e = true → AW P nG N B x tm σ Q) (h2 : e = false → AW P nG N B y tm σ Q) : AW P nG N B (.cond c x y) tm σ Q := by
  cases e with
  | true => exact AW.condT he rfl (h rfl)
  | false => exact AW.condF he rfl (h2 rfl)

theorem wrapA_nat (n : Nat) (h : n < 9223372036854775807) : wrapA .i64 (Int.ofNat n + 1) = Int.ofNat (n + 1) := by
  have e : Int.ofNat n + 1 = Int.ofNat (n + 1) := rfl
  rw [e]
  unfold wrapA
  have : Nat.ble (n + 1) (maxNat .i64) = true := Nat.ble_eq_true_of_le (by show n + 1 ≤ 9223372036854775807; omega)
  simp only [this]

theorem ltI_nat {a b : Nat} : ltI (.ofNat a) (.ofNat b) = decide (a < b) := by
  unfold ltI
  simp only [blt_iff]

end
end --all
end Go.Ev
