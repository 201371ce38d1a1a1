/- Part EvC of the proof that CostNil answers true for every filter and every mood. Conditions: those that each theorem names. -/
import Derived.Test.YtmcammnkdcfmaaaGreatDoorEvB
import Derived.LoopNIn
namespace Go.Ev
noncomputable section --all

/-! ### The interpreter -/

inductive R where
  | nrm (tm : Tm) (dm : List Pos) (σ : St)
  | ex (id : Nat) (tm : Tm) (dm : List Pos) (σ : St)
  | ret (tm : Tm) (dm : List Pos) (σ : St)
  | fail

/-- What a call is of. -/
inductive CT where
  | fn (f : FuncId) (args : List AV)
  | yl (b : Pos) (args : List AV)
  | none

/-- The function that a method of a dynamic type is, where the receiver is the value itself. -/
def methA (P : Program) (t : TypeId) (name : String) : Option FuncId := match P.info? t with
  | some i => match i.methods.find? (fun m => m.name == name) with
    | some m => match m.path.toList, m.func with
      | [], some (f, true) => match P.underlying t with
        | some (.pointer _) => some f
        | _ => none
      | [], some (f, false) => match P.underlying t with
        | some (.pointer _) => none
        | some _ => some f
        | none => none
      | _, _ => none
    | none => none
  | none => none

def callT (P : Program) (c : Call) (e : Operand → AV) : CT := match c.callee with
  | .value f => match e f with
    | .fn g xs ys => .fn g (xs ++ (c.args.toList.map e ++ ys))
    | .yl b => .yl b (c.args.toList.map e)
    | _ => .none
  | .invoke r name => match e r with
    | .ifc t v => match methA P t name with
      | some f => .fn f (v :: c.args.toList.map e)
      | none => .none
    | _ => .none
  | .builtin _ => .none

/-- What an operation of a region looked at and wrote; whether it is a call. -/
structure FP where
  rd : List Pos
  wr : List Pos
  cl : Bool
  ld : Bool

def FP.nil : FP := ⟨[], [], false, false⟩

def memP (b : Pos) : List Pos → Bool
  | [] => false
  | c :: l => match b.beq c with | true => true | false => memP b l
def disj : List Pos → List Pos → Bool
  | [], _ => true
  | b :: l, m => match memP b m with | true => false | false => disj l m

/-- The deed's marks: what it reads and writes. -/
def Deed.fp (d : Deed) (nid : Pos) (σ : St) : FP := match d with
  | .mem rs k => match getAll σ.hp rs with
    | some bs => match k bs with
      | some r => ⟨rs ++ r.upd.map (·.1), r.upd.map (·.1) ++ (match r.nw with | some _ => [nid] | none => []), false, false⟩
      | none => .nil
    | none => .nil
  | _ => .nil

abbrev CallF := FuncId → List AV → St → Option (AV × St)
abbrev YieldF := Pos → List AV → St → Option (AV × St)

section
variable (P : Program) (nG : Nat)

/-- Is the operation wanted? -/
def wantA (ops : Array Oper) (tm : Tm) (o : Oper) : Option Bool := match o.guard with
  | none => some true
  | some (j, want) => match ops[j]? with
    | some oj => match oj.dst with
      | some d => match Nat.blt d tm.N with
        | true => match tm.get d with
          | .bool b => some (match want with | true => b | false => bnot b)
          | .und => none
          | .val _ => none
          | _ => some false
        | false => none
      | none => none
    | none => none

/-- One operation that is wanted. nid: the number for a new block; the last: has it been used? -/
def doOp (cf : CallF) (yf : YieldF) (nid : Pos) (o : Oper) (tm : Tm) (σ : St) : Option (AV × St × Bool) := match o.op with
  | .call c => match c.callee with
    | .builtin _ => (deed P o (evA nG tm)).run nid σ
    | _ => match callT P c (evA nG tm) with
      | .fn f args => match cf f args σ with
        | some (v, σ') => some (v, σ', false)
        | none => none
      | .yl b args => match yf b args σ with
        | some (v, σ') => some (v, σ', false)
        | none => none
      | .none => none
  | _ => (deed P o (evA nG tm)).run nid σ

/-- The operations in the order of the text; new blocks are numbered on. -/
def seqOps (cf : CallF) (yf : YieldF) (ops : Array Oper) : List Nat → Tm → St → Option (Tm × St)
  | [], tm, σ => some (tm, σ)
  | i :: l, tm, σ => match ops[i]? with
    | none => none
    | some o => match wantA ops tm o with
      | none => none
      | some false => seqOps cf yf ops l (tm.put o.dst (.tup [])) σ
      | some true => match doOp P nG cf yf σ.nx o tm σ with
        | none => none
        | some (v, σ', u) => match u with
          | true => seqOps cf yf ops l (tm.put o.dst v) { σ' with nx := σ'.nx.succ }
          | false => seqOps cf yf ops l (tm.put o.dst v) σ'

/-! #### Regions that draw their order -/

def isCall (o : Oper) : Bool := match o.op with
  | .call c => match c.callee with
    | .builtin _ => false
    | _ => true
  | _ => false

def isNew (o : Oper) : Bool := match o.op with
  | .alloc _ | .box _ _ | .buildSlice _ _ _ | .makeMap _ _ | .makeSlice _ _ _ | .range _ _ => true
  | _ => false

/-- The operations that come ahead of each, by the edges, as bits. -/
def masks (l : List Oper) : List Nat := l.foldl (fun acc o => acc ++ [o.after.toList.foldl (fun s e => match Region.binds .any e with
  | true => Nat.lor (Nat.lor s (2 ^ e.on)) (match acc[e.on]? with | some m => m | none => 0)
  | false => s) 0]) []

def subset (m done : Nat) : Bool := Nat.beq (Nat.land m done) m

/-- An order for the interpreter: calls as early as may be, new blocks as late. -/
def pickOne (ms : List Nat) (os : List Oper) (done : Nat) : Nat → List Oper → Option (Nat × Nat) → Option Nat
  | _, [], best => match best with | some (i, _) => some i | none => none
  | i, o :: l, best => match Nat.testBit done i, subset (match ms[i]? with | some m => m | none => 0) done with
    | false, true =>
      let c := match isCall o with | true => 0 | false => match isNew o with | true => 2 | false => 1
      match best with
      | none => pickOne ms os done (i + 1) l (some (i, c))
      | some (j, d) => match Nat.blt c d with
        | true => pickOne ms os done (i + 1) l (some (i, c))
        | false => pickOne ms os done (i + 1) l (some (j, d))
    | _, _ => pickOne ms os done (i + 1) l best

def orderF (ms : List Nat) (os : List Oper) : Nat → Nat → List Nat
  | 0, _ => []
  | n + 1, done => match pickOne ms os done 0 os none with
    | some i => i :: orderF ms os n (Nat.lor done (2 ^ i))
    | none => []

def order (ops : Array Oper) : List Nat := orderF (masks ops.toList) ops.toList ops.size 0

def msGet (ms : List Nat) (i : Nat) : Nat := match ms[i]? with | some m => m | none => 0

/-- j stands ahead of i in the interpreter's order: is it ahead by the edges, or may the two change places as far as the slots go? -/
def apartAt (ops : Array Oper) (ms : List Nat) (j i : Nat) : Bool := match Nat.testBit (msGet ms i) j with
  | true => true
  | false => match ops[j]?, ops[i]? with
    | some oj, some oi => oj.apart ops oi
    | _, _ => false

/-- The slots that an operation looks at, as bits. -/
def slotBits : List Operand → Nat → Nat
  | [], m => m
  | x :: l, m => match x with
    | .tmp t => slotBits l (Nat.lor m (2 ^ t))
    | _ => slotBits l m

def guardBits (ops : Array Oper) (g : Option (Nat × Bool)) (m : Nat) : Nat := match g with
  | none => m
  | some (j, _) => match ops[j]? with
    | none => m
    | some o => match o.dst with
      | none => m
      | some t => Nat.lor m (2 ^ t)

def lookBits (ops : Array Oper) (o : Oper) : Nat := guardBits ops o.guard (slotBits o.op.operands.toList 0)

def apartM (d : Option Nat) (m : Nat) (d' : Option Nat) (m' : Nat) : Bool := match (match d with
    | none => true
    | some t => match Nat.testBit m' t with
      | true => false
      | false => match d' with
        | none => true
        | some t' => match Nat.beq t t' with | true => false | false => true) with
  | false => false
  | true => match d' with
    | none => true
    | some t' => match Nat.testBit m t' with | true => false | false => true

/-- All binding edges lead back. -/
def backAt (i : Nat) : List Edge → Bool
  | [] => true
  | e :: l => match Region.binds .any e with
    | false => backAt i l
    | true => match Nat.blt e.on i with | true => backAt i l | false => false

def backAll : Nat → List Oper → Bool
  | _, [] => true
  | i, o :: l => match backAt i o.after.toList with | true => backAll (i + 1) l | false => false

def prevOk (m : Nat) (d : Option Nat) (k : Nat) : List (Nat × Option Nat × Nat) → Bool
  | [] => true
  | (j, d', k') :: l => match Nat.testBit m j with
    | true => prevOk m d k l
    | false => match apartM d' k' d k with | true => prevOk m d k l | false => false

def goOk (ops : Array Oper) (ms : List Nat) (full : Nat) : List Nat → Nat → List (Nat × Option Nat × Nat) → Bool
  | [], done, _ => Nat.beq done full
  | i :: l, done, prev => match ops[i]? with
    | none => false
    | some o => match Nat.testBit done i, subset (msGet ms i) done, prevOk (msGet ms i) o.dst (lookBits ops o) prev with
      | false, true, true => goOk ops ms full l (Nat.lor done (2 ^ i)) ((i, o.dst, lookBits ops o) :: prev)
      | _, _, _ => false

/-- What is asked of a region that draws, once for all: the edges lead back; the order names each operation once; ahead of an operation stands none that must come behind; slots. -/
def drawOk (ops : Array Oper) (ord : List Nat) : Bool := match Nat.beq ord.length ops.size, backAll 0 ops.toList with
  | true, true => goOk ops (masks ops.toList) (2 ^ ops.size - 1) ord 0 []
  | _, _ => false

/-- Does the operation look at no memory, and make none? -/
def isPure (o : Oper) : Bool := match o.op with
  | .move _ | .assign _ | .pick _ _ _ | .binOp _ _ _ _ _ | .unOp _ _ _ | .fieldAddr _ _ _ | .field _ _ _ | .indexAddr _ _ _ | .index _ _ _ | .extract _ _ | .slice _ _ _ _ _ | .makeInterface _ _
  | .makeFunc _ _ _ | .nilCheck _ | .typeAssert _ _ _ _ | .build _ _ => true
  | _ => false

/-- May a call write to what there was? Only where the edges put all other looks at memory ahead of it or behind it. -/
def loudAt (os : List Oper) (ms : List Nat) (i : Nat) : Nat → Bool
  | 0 => true
  | j + 1 => match Nat.beq j i with
    | true => loudAt os ms i j
    | false => match (match os[j]? with | some o => isPure o | none => true) with
      | true => loudAt os ms i j
      | false => match Nat.testBit (msGet ms i) j with
        | true => loudAt os ms i j
        | false => match Nat.testBit (msGet ms j) i with
          | true => loudAt os ms i j
          | false => false

def FP.none (f : FP) : Bool := match f.rd, f.wr with
  | [], [] => true
  | _, _ => false

/-- Do j (earlier) and i commute? nx: where the numbers that calls give begin. -/
def compat (nx : Nat) (fj fi : FP) : Bool := match (match fj.ld with | true => true | false => fi.ld) with
  | true => match fj.cl, fi.cl with
    | true, true => false
    | true, false => fi.none
    | false, true => fj.none
    | false, false => true
  | false => match fj.cl, fi.cl with
  | true, true => false
  | true, false => match fi.wr with
    | [] => fi.rd.all (fun b => Nat.blt b.toNat nx)
    | [b] => match Nat.blt b.toNat nx, memP b fi.rd with
      | true, false => fi.rd.all (fun b => Nat.blt b.toNat nx)
      | _, _ => false
    | _ => false
  | false, true => match fj.wr with
    | [] => fj.rd.all (fun b => Nat.blt b.toNat nx)
    | _ => false
  | false, false => match disj fj.wr fi.rd, disj fi.wr fj.rd, disj fj.wr fi.wr with
    | true, true, true => true
    | _, _, _ => false

def compatAll (ms : List Nat) (nx : Nat) (j : Nat) (fj : FP) : List (Nat × FP) → Bool
  | [] => true
  | (i, fi) :: l => match Nat.testBit (msGet ms i) j with
    | true => compatAll ms nx j fj l
    | false => match compat nx fj fi with
      | true => compatAll ms nx j fj l
      | false => false

def pairsOk (ms : List Nat) (nx : Nat) : List (Nat × FP) → Bool
  | [] => true
  | (j, fj) :: l => match compatAll ms nx j fj l with | true => pairsOk ms nx l | false => false

def addPos (p : Pos) : Nat → Pos
  | 0 => p
  | n + 1 => (addPos p n).succ

/-- One operation of a region that draws: new blocks have numbers of their own; a call may write to nothing that there was. -/
def drawOp (cf : CallF) (ops : Array Oper) (base : Pos) (lim : Nat) (i : Nat) (tm : Tm) (σ : St) : Option (Tm × St × FP) := match ops[i]? with
  | none => none
  | some o => match wantA ops tm o with
    | none => none
    | some false => some (tm.put o.dst (.tup []), σ, .nil)
    | some true => match isCall o with
      | true => match o.op with
        | .call c => match callT P c (evA nG tm) with
          | .fn f args => match loudAt ops.toList (masks ops.toList) i ops.size with
            | true => match cf f args σ with
              | some (v, σ') => some (tm.put o.dst v, σ', ⟨[], [], true, true⟩)
              | none => none
            | false => match cf f args { σ with lo := lim } with
              | some (v, σ') => some (tm.put o.dst v, { σ' with lo := σ.lo }, ⟨[], [], true, false⟩)
              | none => none
          | _ => none
        | _ => none
      | false => match (deed P o (evA nG tm)).run (addPos base i) σ with
        | some (v, σ', _) => some (tm.put o.dst v, σ', (deed P o (evA nG tm)).fp (addPos base i) σ)
        | none => none

def drawOps (cf : CallF) (ops : Array Oper) (base : Pos) (lim : Nat) : List Nat → Tm → St → Option (Tm × St × List (Nat × FP))
  | [], tm, σ => some (tm, σ, [])
  | i :: l, tm, σ => match drawOp P nG cf ops base lim i tm σ with
    | none => none
    | some (tm', σ', fp) => match drawOps cf ops base lim l tm' σ' with
      | none => none
      | some (tm'', σ'', fps) => some (tm'', σ'', (i, fp) :: fps)

def drawRegion (cf : CallF) (ops : Array Oper) (tm : Tm) (σ : St) : Option (Tm × St) :=
  let base := σ.nx
  let top := addPos base ops.size
  match Nat.ble σ.lo base.toNat, drawOk ops (order ops) with
  | true, true => match drawOps P nG cf ops base top.toNat (order ops) tm { σ with nx := top } with
    | none => none
    | some (tm', σ', fps) => match pairsOk (masks ops.toList) top.toNat fps with
      | true => some (tm', σ')
      | false => none
  | _, _ => none

/-! #### Code -/

def iter (f : Tm → List Pos → St → R) : Nat → Tm → List Pos → St → R
  | 0, _, _, _ => .fail
  | n + 1, tm, dm, σ => match f tm dm σ with
    | .nrm tm' dm' σ' => iter f n tm' dm' σ'
    | r => r

def putsA : List Tmp → List AV → Tm → Tm
  | t :: ts, v :: vs, tm => putsA ts vs (tm.put (some t) v)
  | _, _, tm => tm

/-- A frame's slots at the start: the arguments, nothing behind them. -/
def initT (N : Nat) (args : List AV) : Nat → PTree AV → PTree AV := fun i t => match args with
  | [] => t
  | v :: vs => initT N vs (i + 1) (t.set v (Pos.ofSucc i))

def initTm (ntmps : Nat) (args : List AV) : Tm := ⟨args.length + (ntmps - args.length), initT 0 args 0 .leaf⟩

/-- The block b becomes x. -/
def setB (b : Pos) (x : ABlk) (σ : St) : Option St := match Nat.ble σ.lo b.toNat, σ.hp.get b with
  | true, some _ => some { σ with hp := σ.hp.set x b }
  | _, _ => none

def newB (x : ABlk) (σ : St) : Option St := match σ.hp.get σ.nx with
  | some _ => none
  | none => some { σ with hp := σ.hp.set x σ.nx, nx := σ.nx.succ }

/-- The blocks of the rounds' deferred calls are shut. -/
def shut : List Pos → St → Option St
  | [], σ => some σ
  | d :: l, σ => match σ.hp.get d with
    | some (.dfr true) => match setB d (.dfr false) σ with
      | some σ' => shut l σ'
      | none => none
    | _ => none

def resA (rv : ResultVar) (tm : Tm) (σ : St) : Option AV := match rv with
  | .tmp t => some (evA nG tm (.tmp t))
  | .cell a t => match (loadA P t (evA nG tm (.tmp a))).run .xH σ with
    | some (v, _, false) => some v
    | _ => none

def resAll (tm : Tm) (σ : St) : List ResultVar → Option (List AV)
  | [] => some []
  | r :: l => match resA P nG r tm σ, resAll tm σ l with
    | some v, some vs => some (v :: vs)
    | _, _ => none

def resV (tm : Tm) (σ : St) (rs : List ResultVar) : Option AV := match resAll P nG tm σ rs with
  | some [v] => some v
  | some vs => some (.tup vs)
  | none => none

/-- Functions whose calls are known otherwise. -/
abbrev ExtF := FuncId → Option (List AV → St → Option (AV × St))

def bodyA (f : FuncId) : Option (Func × Code) := match P.funcs[f]? with
  | some fn => match fn.body with
    | some c => match fn.name == "runtime.NumGoroutine" with
      | true => none
      | false => some (fn, c)
    | none => none
  | none => none

def jumpR (j : Option Code) (tm : Tm) (dm : List Pos) (σ : St) : R := match j with
  | none => .nrm tm dm σ
  | some .ret => .ret tm dm σ
  | some (.exit id) => .ex id tm dm σ
  | some _ => .fail

variable (X : ExtF)

/-- A call, the bodies by ev. -/
def callW (ev : Option Pos → Code → Tm → List Pos → St → R) (f : FuncId) (args : List AV) (σ : St) : Option (AV × St) := match X f with
  | some g => g args σ
  | none => match bodyA P f with
    | none => none
    | some (fn, c) =>
      let fin : Tm → List Pos → St → Option (AV × St) := fun tm dm σ' => match shut dm σ' with
        | none => none
        | some σ'' => match resV P nG tm σ'' fn.results.toList with
          | some v => some (v, σ'')
          | none => none
      match ev none c (initTm fn.ntmps args) [] σ with
      | .nrm tm dm σ' => fin tm dm σ'
      | .ret tm dm σ' => fin tm dm σ'
      | _ => none

def endRound (l : Pos) (j : Option Code) (σ : St) : Option (AV × St) := match σ.hp.get l with
  | some (.loop _ _ tm ps assign body d) => match setB l (.loop (match j with | none => .ready | some _ => .done) j tm ps assign body d) σ with
    | some σ' => some (.bool (match j with | none => true | some _ => false), σ')
    | none => none
  | _ => none

/-- A round of a range over a function. -/
def yieldW (ev : Option Pos → Code → Tm → List Pos → St → R) (l : Pos) (args : List AV) (σ : St) : Option (AV × St) := match σ.hp.get l with
  | some (.loop .ready _ tm0 ps assign body _) => match Nat.beq args.length ps.size with
    | false => none
    | true => match ev (some l) assign (putsA ps.toList args tm0) [] σ with
      | .nrm tm1 dm1 σ1 => match σ1.hp.get l with
        | some (.loop .ready pend tm2 ps2 assign2 body2 d2) => match setB l (.loop .busy pend tm2 ps2 assign2 body2 d2) σ1 with
          | some σ2 => match ev (some l) body tm1 dm1 σ2 with
            | .nrm _ _ σ3 => endRound l none σ3
            | .ret _ _ σ3 => endRound l (some .ret) σ3
            | .ex id _ _ σ3 => endRound l (some (.exit id)) σ3
            | .fail => none
          | none => none
        | _ => none
      | _ => none
  | _ => none

/-- A range over a function. -/
def rangeW (cf : CallF) (rnd : Option Pos) (f : Operand) (ps : Array Tmp) (assign body : Code) (tm : Tm) (dm : List Pos) (σ : St) : R :=
  let go : Pos → List Pos → St → R := fun d dm σ0 => match newB (.loop .ready none tm ps assign body d) σ0 with
    | none => .fail
    | some σ1 => match evA nG tm f with
      | .fn g xs ys => match bodyA P g with
        | none => .fail
        | some _ => match cf g (xs ++ (.yl σ0.nx :: ys)) σ1 with
          | some (_, σ2) => match σ2.hp.get σ0.nx with
            | some (.loop st pend tm' ps' a' b' d') => match st with
              | .busy => .fail
              | _ => match setB σ0.nx (.loop .exhausted pend tm' ps' a' b' d') σ2 with
                | some σ3 => jumpR pend tm dm σ3
                | none => .fail
            | _ => .fail
          | none => .fail
      | _ => .fail
  match rnd with
  | none => match newB (.dfr true) σ with
    | none => .fail
    | some σ0 => go σ.nx (σ.nx :: dm) σ0
  | some l => match σ.hp.get l with
    | some (.loop _ _ _ _ _ _ d) => go d dm σ
    | _ => .fail

def evC : Nat → Option Pos → Code → Tm → List Pos → St → R
  | 0, _, _, _, _, _ => .fail
  | n + 1, rnd, c, tm, dm, σ => match c with
    | .skip => .nrm tm dm σ
    | .label _ => .nrm tm dm σ
    | .seq a b => match evC n rnd a tm dm σ with
      | .nrm tm' dm' σ' => evC n rnd b tm' dm' σ'
      | r => r
    | .cond x a b => match evA nG tm x with
      | .bool true => evC n rnd a tm dm σ
      | .bool false => evC n rnd b tm dm σ
      | _ => .fail
    | .block id b => match evC n rnd b tm dm σ with
      | .ex j tm' dm' σ' => match Nat.beq j id with
        | true => .nrm tm' dm' σ'
        | false => .ex j tm' dm' σ'
      | r => r
    | .loop b => iter (evC n rnd b) n tm dm σ
    | .scope b => evC n rnd b tm dm σ
    | .exit id => .ex id tm dm σ
    | .ret => .ret tm dm σ
    | .region _ ops false => match seqOps P nG (callW P nG X (evC n)) (yieldW (evC n)) ops (List.range ops.size) tm σ with
      | some (tm', σ') => .nrm tm' dm σ'
      | none => .fail
    | .region _ ops true => match drawRegion P nG (callW P nG X (evC n)) ops tm σ with
      | some (tm', σ') => .nrm tm' dm σ'
      | none => .fail
    | .rangeFunc f ps assign body => rangeW P nG (callW P nG X (evC n)) rnd f ps assign body tm dm σ
    | _ => .fail

/-- A call with its fuel. -/
def evF (n : Nat) : CallF := callW P nG X (evC P nG X n)

end
end --all
end Go.Ev

namespace Go.Ev
noncomputable section --all

section
variable {P : Program} {nG : Nat} {base : Bd}

/-- A fence that keeps nobody out. -/
structure Wd (F : Fence) : Prop where
  fn : ∀ f, F.fn f
  depth : F.depth = none

def Post (base : Bd) (ρ : Rho) (w : World) (v : AV) (σ' : St) : Ending → World → Prop := fun e w' =>
  ∃ v' ρ', e = .returned v' ∧ VR ρ' v v' ∧ ρ.le ρ' ∧ Rel base ρ' σ' w' ∧ Bel base w w'

/-- A call comes to R: at once, or by its body. -/
def CallTo (F : Fence) (k : Nat) (P : Program) (f : FuncId) (vs : Array Value) (w : World) (R : Ending → World → Prop) : Prop :=
  (∃ v', (callFunc f vs).run P w = .ok (.value v') w ∧ R (.returned v') w) ∨ ((callFunc f vs).run P w = .ok (.enter f vs) w ∧ CallsIn F k P f vs w R)

def CfOk (P : Program) (nG : Nat) (base : Bd) (cf : CallF) : Prop :=
  ∀ f args σ v σ', cf f args σ = some (v, σ') → ∀ (F : Fence) (k : Nat) (ρ : Rho) (w : World) (vs : Array Value), Wd F → Glob nG ρ → Rel base ρ σ w → VRs ρ args vs.toList →
    CallTo F k P f vs w (Post base ρ w v σ')

def YfOk (P : Program) (nG : Nat) (base : Bd) (yf : YieldF) : Prop :=
  ∀ l args σ v σ', yf l args σ = some (v, σ') → ∀ (F : Fence) (k : Nat) (ρ : Rho) (w : World) (vs : Array Value) (loc : Loc), Wd F → Glob nG ρ → Rel base ρ σ w → VRs ρ args vs.toList → ρ l = some loc →
    ∃ fn tmps assign body, (Instr.yield loc.blk vs).run P w = .ok (.round loc.blk fn tmps assign body) w ∧ RoundIn F k P loc.blk fn tmps assign body w (Post base ρ w v σ')

theorem semAt_eq {ro : Option Nat} {r : Operand → Value} {o : Oper} (h : ∀ c, o.op ≠ .defer c) : o.semAt ro r = execOp r o := by
  unfold Oper.semAt
  split
  · rename_i l c hc; exact absurd hc (h c)
  · rfl

theorem deed_noDefer {o : Oper} {e : Operand → AV} {nid : Pos} {σ σ' : St} {v : AV} {u : Bool} (h : (deed P o e).run nid σ = some (v, σ', u)) (c : Call) : o.op ≠ .defer c := by
  intro hc
  obtain ⟨dst, op, ty, pos, after, guard⟩ := o
  simp only at hc
  subst hc
  simp only [deed] at h
  exact run_fail h

/-- What goes on behind an operation. -/
def Goes (base : Bd) (ρ : Rho) (w : World) (o : Oper) (a : Act) (v : AV) (σ' : St) (K : Act → World → Prop) : Prop :=
  ∀ w' ρ' v', VR ρ' v v' → ρ.le ρ' → Rel base ρ' σ' w' → Bel base w w' → K (a.put o.dst v') w'

theorem deed_wp {o : Oper} {nid : Pos} {σ σ' : St} {v : AV} {u : Bool} {ρ : Rho} {w : World} {tm : Tm} {a : Act} {F : Fence} {k : Nat} {K : Act → World → Prop} {Q : Exit → Act → World → Prop}
    (h : (deed P o (evA nG tm)).run nid σ = some (v, σ', u)) (hF : Wd F) (hg : Glob nG ρ) (hR : Rel base ρ σ w) (ht : TR ρ tm a.tmps) (hK : Goes base ρ w o a v σ' K) : o.wpIn F k P a w K Q := by
  refine ⟨fun f _ => hF.fn f, ?_⟩
  rw [semAt_eq (deed_noDefer h)]
  obtain ⟨nx, w', ρ', v', h1, h2, h3, h4, h5, h6⟩ := deed_ok (r := a.eval) (fun x => evA_ok hg ht x) hR h
  rw [h1]
  rcases h2 with rfl | ⟨rfl, rfl⟩
  · exact hK w' ρ' v' h3 h4 h5 h6
  · exact hK w' ρ' undef h3 h4 h5 h6

theorem post_next {ρ : Rho} {w : World} {v : AV} {σ' : St} {o : Oper} {a : Act} {K : Act → World → Prop} {Q : Exit → Act → World → Prop} (hK : Goes base ρ w o a v σ' K) (e : Ending) (w' : World) (h : Post base ρ w v σ' e w') :
    (match (generalizing := false) e, w' with
      | .returned v, w'' => K (a.put o.dst v) w''
      | .panicked chain, w'' => Q (.panic chain) a w''
      | .outgrown, _ => LetsOut Q) := by
  obtain ⟨v', ρ', rfl, h1, h2, h3, h4⟩ := h
  exact hK w' ρ' v' h1 h2 h3 h4

theorem methA_ok {t : TypeId} {name : String} {f : FuncId} (h : methA P t name = some f) (n : Nat) (v : Value) (w : World) : (method (n + 1) t v name).run P w = .ok (f, v) w := by
  unfold methA at h
  split at h
  · rename_i i hi
    split at h
    · rename_i m hm
      split at h
      · rename_i f' hp hf
        split at h
        · rename_i e hu
          cases h
          unfold method
          simp only [Sem.run_bind, run_typeInfo w hi, Result.andThen, hm, hp, follow, Sem.run_pure, hf, receiverAt, run_underlying hu, Place.get]
        · cases h
      · rename_i f' hp hf
        split at h
        · cases h
        · rename_i d hd hu
          cases h
          unfold method
          simp only [Sem.run_bind, run_typeInfo w hi, Result.andThen, hm, hp, follow, Sem.run_pure, hf, receiverAt, run_underlying hu]
          cases d <;> first | exact absurd rfl (hd _) | simp only [Place.get, Sem.run_pure]
        · cases h
      · cases h
    · cases h
  · cases h

theorem depth_pos (P : Program) : ∃ n, P.types.size + Made.depth = n + 1 := by
  have h : 0 < Made.depth := by decide
  exact ⟨P.types.size + Made.depth - 1, by omega⟩

theorem doOp_ok {cf : CallF} {yf : YieldF} {o : Oper} {nid : Pos} {σ σ' : St} {v : AV} {u : Bool} {ρ : Rho} {w : World} {tm : Tm} {a : Act} {F : Fence} {k : Nat} {K : Act → World → Prop} {Q : Exit → Act → World → Prop}
    (hcf : CfOk P nG base cf) (hyf : YfOk P nG base yf)
    (h : doOp P nG cf yf nid o tm σ = some (v, σ', u)) (hF : Wd F) (hg : Glob nG ρ) (hR : Rel base ρ σ w) (ht : TR ρ tm a.tmps) (hK : Goes base ρ w o a v σ' K) : o.wpIn F k P a w K Q := by
  unfold doOp at h
  split at h
  · rename_i c hop
    have hE := fun x => evA_ok (a := a) hg ht x
    split at h
    · exact deed_wp h hF hg hR ht hK
    · rename_i hnb
      have hsem : o.semAt F.round a.eval = (do let d ← resolve a.eval c o.type; invoke d.target d.args) := by
        rw [semAt_eq (by intro c' e; rw [hop] at e; cases e)]
        obtain ⟨dst, op, ty, pos, after, guard⟩ := o
        simp only at hop
        subst hop
        rfl
      have hargs : VRs ρ (c.args.toList.map (evA nG tm)) (c.args.map a.eval).toList := VRs.of_mapA hE c.args
      have hdep : F.depth.isSome = true → 1 ≤ k := fun hd => by rw [hF.depth] at hd; cases hd
      -- a function comes to be called
      have enter : ∀ (f : FuncId) (args : List AV) (vs : Array Value), cf f args σ = some (v, σ') → VRs ρ args vs.toList → (do let d ← resolve a.eval c o.type; invoke d.target d.args : Sem Next).run P w = (callFunc f vs).run P w →
          o.wpIn F k P a w K Q := by
        intro f args vs hcall hr heq
        refine ⟨fun f _ => hF.fn f, ?_⟩
        rw [hsem, heq]
        rcases hcf f args σ v σ' hcall F (k - 1) ρ w vs hF hg hR hr with ⟨v', hv, hp⟩ | ⟨he, hc⟩
        · rw [hv]
          obtain ⟨v'', ρ', e, h1, h2, h3, h4⟩ := hp
          cases e
          exact hK w ρ' v' h1 h2 h3 h4
        · rw [he]
          refine ⟨hdep, hc.mono fun e w' hp => ?_⟩
          obtain ⟨v'', ρ', e, h1, h2, h3, h4⟩ := hp
          cases e
          exact hK w' ρ' v'' h1 h2 h3 h4
      split at h
      · rename_i f args hct
        split at h
        · rename_i v1 σ1 hcall
          simp only [Option.some.injEq, Prod.mk.injEq] at h
          obtain ⟨rfl, rfl, rfl⟩ := h
          unfold callT at hct
          split at hct
          · rename_i fo hfo
            have hfv := hE fo
            split at hct
            · rename_i g xs ys hev
              cases hct
              rw [hev] at hfv
              generalize hfvv : a.eval fo = fv at hfv
              cases hfv with
              | fn e1 h1 e2 h2 =>
                rename_i vs us
                have hxs : VRs ρ xs vs.toList := ⟨by simpa using e1, fun i x v p q => h1 i x v p (by simpa using q)⟩
                have hys : VRs ρ ys us.toList := ⟨by simpa using e2, fun i x v p q => h2 i x v p (by simpa using q)⟩
                refine enter f _ ((vs ++ c.args.map a.eval) ++ us) hcall ?_ ?_
                · have := hxs.append (hargs.append hys)
                  simpa using this
                · simp only [resolve, hfo, Deferred.ofValue, hfvv, Sem.run_bind, Sem.run_pure, Result.andThen, invoke]
            · cases hct
            · cases hct
          · rename_i rcv name hfo
            have hrv := hE rcv
            split at hct
            · rename_i t x hev
              split at hct
              · rename_i f' hm
                cases hct
                rw [hev] at hrv
                generalize hrvv : a.eval rcv = rv at hrv
                cases hrv with
                | ifc hx =>
                  rename_i xv
                  obtain ⟨n, hn⟩ := depth_pos P
                  refine enter f _ (#[xv] ++ c.args.map a.eval) hcall ?_ ?_
                  · have e0 : (#[xv] ++ c.args.map a.eval).toList = xv :: (c.args.map a.eval).toList := by simp
                    rw [e0]
                    exact VRs.cons hx hargs
                  · have e0 : (#[xv] ++ c.args.map a.eval).toList = xv :: (c.args.map a.eval).toList := by simp
                    simp (config := { failIfUnchanged := false }) only [resolve, hfo, hrvv, Sem.run_bind, Sem.run_pure, Result.andThen, invoke]
                    have e1 : (#[Value.iface t xv] ++ c.args.map a.eval)[0]? = some (.iface t xv) := by rw [Array.getElem?_append_left (by simp)]; rfl
                    have e2 : (#[Value.iface t xv] ++ c.args.map a.eval).extract 1 (#[Value.iface t xv] ++ c.args.map a.eval).size = c.args.map a.eval := by
                      apply Array.ext'; simp; exact List.take_of_length_le (by simp)
                    simp only [e1, e2, callMethod, Sem.run_bind, run_program, Result.andThen, hn, methA_ok hm]
              · cases hct
            · cases hct
          · cases hct
        · cases h
      · rename_i b args hct
        split at h
        · rename_i v1 σ1 hy
          simp only [Option.some.injEq, Prod.mk.injEq] at h
          obtain ⟨rfl, rfl, rfl⟩ := h
          unfold callT at hct
          split at hct
          · rename_i fo hfo
            have hfv := hE fo
            split at hct
            · cases hct
            · rename_i b' hev
              cases hct
              rw [hev] at hfv
              generalize hfvv : a.eval fo = fv at hfv
              cases hfv with
              | yl hl =>
                rename_i loc
                obtain ⟨fn, tmps, assign, body, hrun, hround⟩ := hyf b _ σ v1 σ1 hy F (k - 1) ρ w (c.args.map a.eval) loc hF hg hR hargs hl
                refine ⟨fun f _ => hF.fn f, ?_⟩
                rw [hsem]
                have heq : (do let d ← resolve a.eval c o.type; invoke d.target d.args : Sem Next).run P w = .ok (.round loc.blk fn tmps assign body) w := by
                  simp only [resolve, hfo, Deferred.ofValue, hfvv, Sem.run_bind, Sem.run_pure, Result.andThen, invoke]
                  simpa using hrun
                rw [heq]
                refine ⟨hdep, hround.mono fun e w' hp => ?_⟩
                obtain ⟨v'', ρ', e, h1, h2, h3, h4⟩ := hp
                cases e
                exact hK w' ρ' v'' h1 h2 h3 h4
            · cases hct
          · split at hct
            · split at hct <;> cases hct
            · cases hct
          · cases hct
        · cases h
      · cases h
  · exact deed_wp h hF hg hR ht hK

end
end --all
end Go.Ev

namespace Go.Ev
noncomputable section --all

section
variable {P : Program} {nG : Nat} {base : Bd}

theorem VR.unwanted (ρ : Rho) : VR ρ (.tup []) undef := .tup rfl (fun i x v h => by simp at h)

theorem wantA_ok {ops : Array Oper} {tm : Tm} {o : Oper} {b : Bool} {ρ : Rho} {a : Act} (h : wantA ops tm o = some b) (ht : TR ρ tm a.tmps) : Region.wanted o (yielded ops a.tmps) = b := by
  unfold wantA at h
  unfold Region.wanted
  split at h
  · rename_i hg
    cases h
    simp [hg]
  · rename_i j want hg
    simp only [hg]
    split at h
    · rename_i oj hj
      split at h
      · rename_i d hd
        split at h
        · rename_i hlt
          have hlt : d < tm.N := Nat.le_of_ble_eq_true hlt
          have hs : d < a.tmps.size := by rw [ht.size]; exact hlt
          have hv := ht.at_ d a.tmps[d] (by simp [hs])
          have hy : yielded ops a.tmps j = match a.tmps[d] with | .bool b => some b | _ => none := by
            unfold yielded
            simp only [hj, hd, Option.bind_some, hs, Array.getElem?_eq_getElem]
            cases a.tmps[d] <;> rfl
          rw [hy]
          generalize a.tmps[d] = v at hv
          generalize tm.get d = x at hv h
          split at h
          · cases hv
            simp only [Option.some.injEq] at h
            subst h
            rename_i b' 
            cases want <;> cases b' <;> rfl
          · cases h
          · cases h
          · rename_i hnb hnu hnv
            simp only [Option.some.injEq] at h
            subst h
            have : (match v with | .bool b => some b | _ => none) = none := by
              split
              · rename_i b'
                cases hv
                · exact absurd rfl hnu
                · exact absurd rfl (hnb _)
                · exact absurd rfl (hnv _)
              · rfl
            rw [this]
            rfl
        · cases h
      · cases h
    · cases h

theorem Rel.nxt {ρ : Rho} {σ : St} {w : World} (h : Rel base ρ σ w) (n : Pos) : Rel base ρ { σ with nx := n } w := ⟨h.dom, h.blk, h.inj, h.le, h.old⟩
theorem Rel.lom {ρ : Rho} {σ : St} {w : World} (h : Rel base ρ σ w) (n : Nat) : Rel base ρ { σ with lo := n } w := ⟨h.dom, h.blk, h.inj, h.le, h.old⟩

theorem Act.put_defers' (a : Act) (d : Option Nat) (v : Value) : (a.put d v).defers = a.defers := by cases d <;> rfl

/-- What is asked behind a row of operations. -/
def Then (base : Bd) (ρ : Rho) (w : World) (a : Act) (tm' : Tm) (σ' : St) (K : Act → World → Prop) : Prop :=
  ∀ a' w' ρ', a'.defers = a.defers → TR ρ' tm' a'.tmps → ρ.le ρ' → Rel base ρ' σ' w' → Bel base w w' → K a' w'

theorem seqOps_ok {cf : CallF} {yf : YieldF} {ops : Array Oper} {F : Fence} {k : Nat} {Q : Exit → Act → World → Prop} (hcf : CfOk P nG base cf) (hyf : YfOk P nG base yf) (hF : Wd F) :
    ∀ (l : List Nat) (tm : Tm) (σ : St) (tm' : Tm) (σ' : St), seqOps P nG cf yf ops l tm σ = some (tm', σ') → ∀ (ρ : Rho) (w : World) (a : Act), Glob nG ρ → Rel base ρ σ w → TR ρ tm a.tmps →
      Then base ρ w a tm' σ' (Q .normal) → wpOpsIn F k P ops Q l a w := by
  intro l
  induction l with
  | nil =>
    intro tm σ tm' σ' h ρ w a hg hR ht hK
    simp only [seqOps, Option.some.injEq, Prod.mk.injEq] at h
    obtain ⟨rfl, rfl⟩ := h
    exact hK a w ρ rfl ht (Rho.le_refl _) hR (Bel.refl _ _)
  | cons i l ih =>
    intro tm σ tm' σ' h ρ w a hg hR ht hK
    rw [wpOpsIn_cons]
    unfold wpOpIn
    simp only [seqOps] at h
    split at h
    · cases h
    · rename_i o ho
      simp only [ho]
      split at h
      · cases h
      · rename_i hw
        rw [wantA_ok hw ht]
        simp only [Bool.false_eq_true, if_false]
        refine ⟨fun f _ => hF.fn f, ?_⟩
        refine ih _ _ _ _ h ρ w _ hg hR (ht.putO o.dst (VR.unwanted ρ)) ?_
        intro a' w' ρ' e1 e2 e3 e4 e5
        exact hK a' w' ρ' (e1.trans (Act.put_defers' _ _ _)) e2 e3 e4 e5
      · rename_i hw
        rw [wantA_ok hw ht]
        simp only [if_true]
        split at h
        · cases h
        · rename_i v σ1 u hdo
          refine doOp_ok hcf hyf hdo hF hg hR ht ?_
          intro w1 ρ1 v1 hv hle hR1 hB1
          have key : ∃ n, seqOps P nG cf yf ops l (tm.put o.dst v) { σ1 with nx := n } = some (tm', σ') := by
            split at h
            · exact ⟨_, h⟩
            · exact ⟨σ1.nx, h⟩
          obtain ⟨n, h⟩ := key
          refine ih _ _ _ _ h ρ1 w1 _ (hg.mono hle) (hR1.nxt n) ((ht.mono hle).putO o.dst hv) ?_
          intro a' w' ρ' e1 e2 e3 e4 e5
          exact hK a' w' ρ' (e1.trans (Act.put_defers' _ _ _)) e2 (Rho.le_trans hle e3) e4 (hB1.trans e5)

end
end --all
end Go.Ev

namespace Go.Ev
noncomputable section --all

section
variable {P : Program} {nG : Nat} {base : Bd}

/-! ### Records of loops, marks, results -/

def mark (b : Nat) : Deferred := { target := .collected b, args := #[] }

inductive DR (ρ : Rho) : List Pos → List Deferred → Prop
  | nil : DR ρ [] []
  | cons {d : Pos} {l : Loc} {dm : List Pos} {ds : List Deferred} : ρ d = some l → DR ρ dm ds → DR ρ (d :: dm) (mark l.blk :: ds)

theorem DR.mono {ρ ρ' : Rho} (h : ρ.le ρ') {dm : List Pos} {ds : List Deferred} (r : DR ρ dm ds) : DR ρ' dm ds := by
  induction r with
  | nil => exact .nil
  | cons e _ ih => exact .cons (h _ _ e) ih

theorem setB_spec {b : Pos} {x : ABlk} {σ σ' : St} (h : setB b x σ = some σ') : ∃ y, σ.hp.get b = some y ∧ σ' = { σ with hp := σ.hp.set x b } ∧ σ.lo ≤ b.toNat := by
  unfold setB at h
  split at h
  · rename_i y hlo hy
    cases h
    exact ⟨y, hy, rfl, Nat.le_of_ble_eq_true hlo⟩
  · cases h

theorem newB_spec {x : ABlk} {σ σ' : St} (h : newB x σ = some σ') : σ.hp.get σ.nx = none ∧ σ' = { σ with hp := σ.hp.set x σ.nx, nx := σ.nx.succ } := by
  unfold newB at h
  split at h
  · cases h
  · rename_i hn
    cases h
    exact ⟨hn, rfl⟩

theorem sameBut_putObj (w : World) (b : Nat) (o : Obj) : SameBut w (w.putObj b o) b := ⟨rfl, rfl, rfl, World.putObj_size, fun _ hj => World.putObj_heap_other hj⟩

theorem heap_lt {w : World} {b : Nat} {o : Obj} (h : w.heap[b]? = some o) : b < w.heap.size := (Array.getElem?_eq_some_iff.1 h).1

theorem shut_ok {fn : Func} {tmps : Array Value} {R : Ending → World → Prop} {F : Fence} {k : Nat} {w0 : World} : ∀ (dm : List Pos) (σ σ' : St), shut dm σ = some σ' → ∀ (ρ : Rho) (w : World) (ds : List Deferred), DR ρ dm ds → Rel base ρ σ w → Bel base w0 w →
    (∀ w', Rel base ρ σ' w' → Bel base w0 w' → LeavesIn F k P fn tmps R [] .returning w') → LeavesInM F k P fn tmps R ds .returning w := by
  intro dm
  induction dm with
  | nil =>
    intro σ σ' h ρ w ds hd hR hB hK
    cases hd
    simp only [shut, Option.some.injEq] at h
    subst h
    exact hK w hR hB
  | cons d dm ih =>
    intro σ σ' h ρ w ds hd hR hB hK
    cases hd with
    | cons hl hd =>
      rename_i l ds
      simp only [shut] at h
      split at h
      · rename_i hdf
        split at h
        · rename_i σ1 hs
          obtain ⟨y, hy, rfl, _⟩ := setB_spec hs
          have hb := hR.at_ hdf hl
          obtain ⟨h1, h2⟩ := hb
          refine ⟨by simp, .inl ⟨l.blk, w.putObj l.blk (.deferred none), rfl, run_takeDeferred h1, ?_⟩⟩
          have hsb := sameBut_putObj w l.blk (.deferred none)
          refine ih _ _ h ρ _ ds hd (hR.upd hdf hl rfl hsb h2 ⟨World.putObj_heap_same (heap_lt h1), h2⟩) (hB.trans (hsb.below h2)) hK
        · cases h
      · cases h

/-! ### Results -/

theorem load_same {t : TypeId} {x v : AV} {xv : Value} {ρ : Rho} {σ σ' : St} {w : World} {nid : Pos} {u : Bool} (hR : Rel base ρ σ w) (hx : VR ρ x xv) (h : (loadA P t x).run nid σ = some (v, σ', u)) :
    ∃ c, (do loadVar t (← asAddr xv) : Sem Value).run P w = .ok c w ∧ VR ρ v c := by
  cases hx with
  | ptr hl =>
    rename_i b o l
    simp only [loadA] at h
    cases ha : aggT P t with
    | none => rw [ha] at h; exact (run_fail h).elim
    | some g =>
      have hag := aggT_ok ha w
      rw [ha] at h
      cases g with
      | false =>
        obtain ⟨y, hy, hk, rfl⟩ := run_read h
        split at hk
        · rename_i cells t' sz opn wr
          split at hk
          · rename_i z hz
            cases hk
            obtain ⟨c, hc, hr⟩ := row_load (hR.at_ hy hl) hz
            refine ⟨c, ?_, hr⟩
            simp [asAddr, loadVar, Sem.run_bind, hag, Result.andThen, run_load, hc]
          · cases hk
        · cases hk
      | true =>
        simp only at h
        cases hs : sizeT P t with
        | none => rw [hs] at h; exact (run_fail h).elim
        | some n =>
          rw [hs] at h
          obtain ⟨y, hy, hk, rfl⟩ := run_read h
          split at hk
          · rename_i cells t' sz opn wr
            split at hk
            · rename_i hle
              cases hk
              obtain ⟨vs, hrun, hr⟩ := row_loads (P := P) (hR.at_ hy hl) (Nat.le_of_ble_eq_true hle)
              refine ⟨.agg vs.toArray, ?_, hr.to_agg⟩
              simp [asAddr, loadVar, Sem.run_bind, hag, Result.andThen, (sizeT_ok hs).2, hrun]
            · cases hk
          · cases hk
  | _ => simp only [loadA] at h; exact (run_fail h).elim

theorem resA_ok {rv : ResultVar} {tm : Tm} {σ : St} {v : AV} {ρ : Rho} {w : World} {a : Act} (h : resA P nG rv tm σ = some v) (hg : Glob nG ρ) (hR : Rel base ρ σ w) (ht : TR ρ tm a.tmps) :
    ∃ c, ((match rv with
      | .tmp t => pure (a.tmps.getD t undef)
      | .cell b t => do loadVar t (← asAddr (a.tmps.getD b undef)) : Sem Value)).run P w = .ok c w ∧ VR ρ v c := by
  cases rv with
  | tmp t =>
    simp only [resA, Option.some.injEq] at h
    subst h
    exact ⟨a.eval (.tmp t), by simp only [Sem.run_pure]; rfl, evA_ok hg ht (.tmp t)⟩
  | cell b t =>
    simp only [resA] at h
    split at h
    · rename_i hl
      cases h
      exact load_same hR (evA_ok hg ht (.tmp b)) hl
    · cases h

theorem resAll_ok {tm : Tm} {σ : St} {ρ : Rho} {w : World} {a : Act} (hg : Glob nG ρ) (hR : Rel base ρ σ w) (ht : TR ρ tm a.tmps) : ∀ (rs : List ResultVar) (vs : List AV), resAll P nG tm σ rs = some vs →
    ∃ cs, (rs.mapM (fun rv => (match rv with
      | .tmp t => pure (a.tmps.getD t undef)
      | .cell b t => do loadVar t (← asAddr (a.tmps.getD b undef)) : Sem Value))).run P w = .ok cs w ∧ VRs ρ vs cs := by
  intro rs
  induction rs with
  | nil =>
    intro vs h
    simp only [resAll, Option.some.injEq] at h
    subst h
    exact ⟨[], by simp only [List.mapM_nil, Sem.run_pure], VRs.nil ρ⟩
  | cons r rs ih =>
    intro vs h
    simp only [resAll] at h
    split at h
    · rename_i v vs' hv hvs
      cases h
      obtain ⟨c, h1, h2⟩ := resA_ok hv hg hR ht
      obtain ⟨cs, h3, h4⟩ := ih vs' hvs
      exact ⟨c :: cs, by simp only [List.mapM_cons, Sem.run_bind, h1, Result.andThen, h3, Sem.run_pure], .cons h2 h4⟩
    · cases h

theorem resV_ok {fn : Func} {tm : Tm} {σ : St} {v : AV} {ρ : Rho} {w : World} {a : Act} (h : resV P nG tm σ fn.results.toList = some v) (hg : Glob nG ρ) (hR : Rel base ρ σ w) (ht : TR ρ tm a.tmps) :
    ∃ c, (results fn a.tmps).run P w = .ok c w ∧ VR ρ v c := by
  have key : ∀ vs, resAll P nG tm σ fn.results.toList = some vs → ∃ cs : Array Value, VRs ρ vs cs.toList ∧ (results fn a.tmps).run P w = .ok (if h : cs.size = 1 then cs[0] else .tuple cs) w := by
    intro vs hvs
    obtain ⟨cs, h1, h2⟩ := resAll_ok hg hR ht fn.results.toList vs hvs
    refine ⟨cs.toArray, by simpa using h2, ?_⟩
    have e : (results fn a.tmps) = (do
        let vs ← fn.results.mapM (fun rv => (match rv with
          | .tmp t => pure (a.tmps.getD t undef)
          | .cell b t => do loadVar t (← asAddr (a.tmps.getD b undef)) : Sem Value))
        pure (if h : vs.size = 1 then vs[0] else .tuple vs)) := rfl
    rw [e, Array.mapM_eq_mapM_toList]
    simp only [Sem.run_bind, map_eq_pure_bind, h1, Result.andThen, Sem.run_pure]
  unfold resV at h
  split at h
  · rename_i x hx
    cases h
    obtain ⟨cs, h1, h2⟩ := key _ hx
    have hs : cs.size = 1 := by simpa using h1.1.symm
    refine ⟨cs[0], by rw [h2]; simp [hs], ?_⟩
    exact h1.2 0 v cs[0] rfl (by simp [hs])
  · rename_i vs hvs hx
    cases h
    obtain ⟨cs, h1, h2⟩ := key _ hx
    have hs : ¬ cs.size = 1 := fun e => by
      have := h1.1
      simp [e] at this
      match vs, this with
      | [x], _ => exact hvs x rfl
    refine ⟨.tuple cs, by rw [h2]; simp [hs], ?_⟩
    have := h1.to_tup
    simpa using this
  · cases h

end
end --all
end Go.Ev

namespace Go.Ev
noncomputable section --all

section
variable {P : Program} {nG : Nat} {base : Bd}

/-! ### Code -/

def RndOk (ρ : Rho) : Option Pos → Fence → Prop
  | none, F => F.round = none
  | some l, F => ∃ loc, ρ l = some loc ∧ F.round = some loc.blk

theorem RndOk.mono {ρ ρ' : Rho} (h : ρ.le ρ') {rnd : Option Pos} {F : Fence} (r : RndOk ρ rnd F) : RndOk ρ' rnd F := by
  cases rnd with
  | none => exact r
  | some l => obtain ⟨loc, h1, h2⟩ := r; exact ⟨loc, h _ _ h1, h2⟩

def Ends (base : Bd) (ρ : Rho) (w : World) (tm : Tm) (dm : List Pos) (σ : St) (K : Act → World → Prop) : Prop :=
  ∀ a' w' ρ', TR ρ' tm a'.tmps → DR ρ' dm a'.defers → ρ.le ρ' → Rel base ρ' σ w' → Bel base w w' → K a' w'

def ROk (base : Bd) (ρ : Rho) (w : World) (r : R) (Q : Exit → Act → World → Prop) : Prop := match r with
  | .nrm tm dm σ => Ends base ρ w tm dm σ (Q .normal)
  | .ex id tm dm σ => Ends base ρ w tm dm σ (Q (.exit id))
  | .ret tm dm σ => Ends base ρ w tm dm σ (Q .ret)
  | .fail => False

theorem Ends.later {ρ ρ' : Rho} {w w' : World} {tm : Tm} {dm : List Pos} {σ : St} {K : Act → World → Prop} (h : Ends base ρ w tm dm σ K) (hr : ρ.le ρ') (hw : Bel base w w') : Ends base ρ' w' tm dm σ K :=
  fun a' w2 ρ2 h1 h2 h3 h4 h5 => h a' w2 ρ2 h1 h2 (Rho.le_trans hr h3) h4 (hw.trans h5)

theorem ROk.later {ρ ρ' : Rho} {w w' : World} {r : R} {Q : Exit → Act → World → Prop} (h : ROk base ρ w r Q) (hr : ρ.le ρ') (hw : Bel base w w') : ROk base ρ' w' r Q := by
  cases r <;> first | exact Ends.later h hr hw | exact h

theorem Ends.now {ρ : Rho} {w : World} {tm : Tm} {dm : List Pos} {σ : St} {K : Act → World → Prop} (h : Ends base ρ w tm dm σ K) {a : Act} (ht : TR ρ tm a.tmps) (hd : DR ρ dm a.defers) (hR : Rel base ρ σ w) : K a w :=
  h a w ρ ht hd (Rho.le_refl _) hR (Bel.refl _ _)

abbrev EvF := Option Pos → Code → Tm → List Pos → St → R

def CodeOk (P : Program) (nG : Nat) (base : Bd) (ev : EvF) : Prop :=
  ∀ (rnd : Option Pos) (c : Code) (tm : Tm) (dm : List Pos) (σ : St) (F : Fence) (k : Nat) (ρ : Rho) (w : World) (a : Act) (Q : Exit → Act → World → Prop), Wd F → RndOk ρ rnd F → Glob nG ρ → Rel base ρ σ w → TR ρ tm a.tmps → DR ρ dm a.defers →
    ROk base ρ w (ev rnd c tm dm σ) Q → c.wpIn F k P Q a w

/-- What is asked of them: the answer is the program's. -/
def ExtOk (P : Program) (nG : Nat) (base : Bd) (X : ExtF) : Prop := ∀ f g, X f = some g → ∀ args σ v σ', g args σ = some (v, σ') → ∀ (F : Fence) (k : Nat) (ρ : Rho) (w : World) (vs : Array Value), Wd F → Glob nG ρ → Rel base ρ σ w → VRs ρ args vs.toList →
    CallTo F k P f vs w (Post base ρ w v σ')

theorem bodyA_spec {f : FuncId} {fn : Func} {c : Code} (h : bodyA P f = some (fn, c)) : P.funcs[f]? = some fn ∧ fn.body = some c ∧ ∀ vs w, (callFunc f vs).run P w = .ok (.enter f vs) w := by
  unfold bodyA at h
  split at h
  · rename_i fn' hf
    split at h
    · rename_i c' hb
      split at h
      · cases h
      · rename_i hn
        cases h
        refine ⟨hf, hb, fun vs w => ?_⟩
        simp [callFunc, Sem.run_bind, run_program, Result.andThen, hf, hb]
        have : fn.name ≠ "runtime.NumGoroutine" := by simpa using hn
        simp [this]
    · cases h
  · cases h

theorem initT_get (vs : List AV) : ∀ (i : Nat) (t : PTree AV) (j : Nat), (initT 0 vs i t).get (Pos.ofSucc j) = if i ≤ j then (match vs[j - i]? with | some v => some v | none => t.get (Pos.ofSucc j)) else t.get (Pos.ofSucc j) := by
  induction vs with
  | nil => intro i t j; simp [initT]
  | cons v vs ih =>
    intro i t j
    simp only [initT, ih]
    by_cases h1 : i + 1 ≤ j
    · have h2 : i ≤ j := by omega
      have e : j - i = (j - (i + 1)) + 1 := by omega
      rw [if_pos h1, if_pos h2, e]
      simp only [List.getElem?_cons_succ]
      split
      · rfl
      · rw [PTree.get_set_other _ _ _ _ (fun e => by have := Pos.ofSucc_inj e; omega)]
    · rw [if_neg h1]
      by_cases h2 : i = j
      · subst h2
        simp [PTree.get_set_same]
      · have h3 : ¬ i ≤ j := by omega
        rw [if_neg h3, PTree.get_set_other _ _ _ _ (fun e => by have := Pos.ofSucc_inj e; omega)]

theorem initTm_ok {ρ : Rho} {args : List AV} {vs : Array Value} (n : Nat) (h : VRs ρ args vs.toList) : TR ρ (initTm n args) (vs ++ Array.replicate (n - vs.size) undef) := by
  have hl : args.length = vs.size := by simpa using h.1
  refine ⟨by simp [initTm, hl], fun i v hv => ?_⟩
  unfold Tm.get initTm
  simp only
  have e0 : ∀ (n : Nat) (t : PTree AV), initT n args 0 t = initT 0 args 0 t := by
    intro n
    have : ∀ (xs : List AV) (i : Nat) (t : PTree AV), initT n xs i t = initT 0 xs i t := by
      intro xs
      induction xs with
      | nil => intros; rfl
      | cons x xs ih => intro i t; simp only [initT]; exact ih _ _
    exact this args 0
  rw [initT_get]
  simp only [Nat.zero_le, if_true, Nat.sub_zero, PTree.get_leaf]
  by_cases hi : i < vs.size
  · rw [Array.getElem?_append_left hi] at hv
    have hx : args[i]? = some args[i] := by simp [hl, hi]
    rw [hx]
    exact h.2 i _ v hx (by simpa using hv)
  · have hx : args[i]? = none := by simp [hl]; omega
    rw [hx]
    exact .und _

theorem callW_ok {X : ExtF} {ev : EvF} (hX : ExtOk P nG base X) (hev : CodeOk P nG base ev) : CfOk P nG base (callW P nG X ev) := by
  intro f args σ v σ' h F k ρ w vs hF hg hR hv
  unfold callW at h
  split at h
  · rename_i g hg'
    exact hX f g hg' args σ v σ' h F k ρ w vs hF hg hR hv
  · split at h
    · cases h
    · rename_i fn c hb
      obtain ⟨hf, hbody, henter⟩ := bodyA_spec hb
      refine .inr ⟨henter vs w, ?_⟩
      -- the end of the body
      have fin : ∀ tm dm σ1, (match shut dm σ1 with
          | none => none
          | some σ'' => match resV P nG tm σ'' fn.results.toList with
            | some v => some (v, σ'')
            | none => none) = some (v, σ') → Ends base ρ w tm dm σ1 (fun a' w' => LeavesInM F.plain k P fn a'.tmps (Post base ρ w v σ') a'.defers .returning w') := by
        intro tm dm σ1 h1 a' w' ρ' ht hd hle hR' hB
        split at h1
        · cases h1
        · rename_i σ2 hs
          split at h1
          · rename_i v2 hv2
            simp only [Option.some.injEq, Prod.mk.injEq] at h1
            obtain ⟨rfl, rfl⟩ := h1
            refine shut_ok dm σ1 σ2 hs ρ' w' a'.defers hd hR' hB ?_
            intro w2 hR2 hB2
            obtain ⟨c2, h3, h4⟩ := resV_ok hv2 (hg.mono hle) hR2 ht
            exact ⟨c2, h3, c2, ρ', rfl, h4, hle, hR2, hB2⟩
          · cases h1
      have hcall : CallsIn F.plain k P f vs w (Post base ρ w v σ') := by
        refine callsIn_of_wp_marks hf hbody (hF.fn f) ?_
        refine hev none c _ [] σ F.plain k ρ w _ _ ⟨hF.fn, hF.depth⟩ rfl hg hR (initTm_ok fn.ntmps hv) .nil ?_
        simp only at h
        split at h
        · rename_i tm dm σ1 he
          rw [he]
          exact fin tm dm σ1 h
        · rename_i tm dm σ1 he
          rw [he]
          exact fin tm dm σ1 h
        · cases h
      exact hcall

end
end --all
end Go.Ev

namespace Go.Ev
noncomputable section --all

section
variable {P : Program} {nG : Nat} {base : Bd}

/-! ### Rounds -/

theorem putsA_ok {ρ : Rho} : ∀ (ps : List Tmp) (args : List AV) (vs : List Value) (tm : Tm) (arr : Array Value), VRs ρ args vs → TR ρ tm arr → TR ρ (putsA ps args tm) ((ps.zip vs).foldl (fun tmps (t, a) => tmps.setIfInBounds t a) arr) := by
  intro ps
  induction ps with
  | nil => intro args vs tm arr _ ht; simpa [putsA] using ht
  | cons p ps ih =>
    intro args vs tm arr hv ht
    cases args with
    | nil =>
      cases vs with
      | nil => simpa [putsA] using ht
      | cons v vs => have := hv.1; simp at this
    | cons x args =>
      cases vs with
      | nil => have := hv.1; simp at this
      | cons v vs =>
        simp only [putsA, List.zip_cons_cons, List.foldl_cons]
        refine ih args vs _ _ ⟨by have := hv.1; simpa using this, fun i y u a b => hv.2 (i + 1) y u (by simpa using a) (by simpa using b)⟩ ?_
        exact ht.put p (hv.2 0 x v rfl rfl)

theorem endRound_ok {l : Pos} {loc : Loc} {j : Option Code} {σ σ' : St} {v : AV} {ρ : Rho} {w : World} (h : endRound l j σ = some (v, σ')) (hR : Rel base ρ σ w) (hl : ρ l = some loc) :
    ∃ v' w', (Instr.endRound loc.blk j).run P w = .ok v' w' ∧ Post base ρ w v σ' (.returned v') w' := by
  unfold endRound at h
  split at h
  · rename_i st pend tm ps assign body d hlp
    split at h
    · rename_i σ1 hs
      simp only [Option.some.injEq, Prod.mk.injEq] at h
      obtain ⟨rfl, rfl⟩ := h
      obtain ⟨y, hy, rfl, _⟩ := setB_spec hs
      obtain ⟨fn, arr, ld, h1, h2, h3, h4⟩ := hR.at_ hlp hl
      have hsb := sameBut_putObj w loc.blk (.loop { state := if j.isNone then .ready else .done, pending := j, fn, tmps := arr, params := ps, assign, body, defers := ld.blk })
      refine ⟨_, _, run_endRound j h1, .bool j.isNone, ρ, rfl, ?_, Rho.le_refl _, ?_, ?_⟩
      · cases j <;> exact .bool _
      · refine hR.upd hlp hl rfl (sameBut_putObj w loc.blk _) h4 ⟨fn, arr, ld, ?_, h2, h3, h4⟩
        rw [World.putObj_heap_same (heap_lt h1)]
        cases j <;> rfl
      · exact hsb.below h4
    · cases h
  · cases h

theorem Post.later {ρ ρ' : Rho} {w w' : World} {v : AV} {σ' : St} {e : Ending} {w2 : World} (h : Post base ρ' w' v σ' e w2) (hr : ρ.le ρ') (hw : Bel base w w') : Post base ρ w v σ' e w2 := by
  obtain ⟨v', ρ2, h1, h2, h3, h4, h5⟩ := h
  exact ⟨v', ρ2, h1, h2, Rho.le_trans hr h3, h4, hw.trans h5⟩

theorem yieldW_ok {ev : EvF} (hev : CodeOk P nG base ev) : YfOk P nG base (yieldW ev) := by
  intro l args σ v σ' h F k ρ w vs loc hF hg hR hv hl
  unfold yieldW at h
  split at h
  · rename_i pend tm0 ps assign body d hlp
    obtain ⟨fn, arr, ld, h1, h2, h3, h4⟩ := hR.at_ hlp hl
    split at h
    · cases h
    · rename_i hsz
      have hsz : args.length = ps.size := Nat.eq_of_beq_eq_true hsz
      have hsz' : vs.size = ps.size := by rw [← hsz]; simpa using hv.1.symm
      refine ⟨fn, _, assign, body, run_yield h1 hsz', roundIn_of_wpIn (hF.fn fn) ?_⟩
      have hF' : Wd (F.inRound loc.blk) := ⟨hF.fn, hF.depth⟩
      have ht : TR ρ (putsA ps.toList args tm0) ((ps.zip vs).foldl (fun tmps (t, a) => tmps.setIfInBounds t a) arr) := by
        have := putsA_ok ps.toList args vs.toList tm0 arr hv h2
        rw [← Array.foldl_toList]
        simpa using this
      split at h
      · rename_i tm1 dm1 σ1 he1
        refine hev (some l) assign _ [] σ _ k ρ w _ _ hF' ⟨loc, hl, rfl⟩ hg hR ht .nil ?_
        rw [he1]
        intro a1 w1 ρ1 ht1 hd1 hle1 hR1 hB1
        split at h
        · rename_i pend2 tm2 ps2 assign2 body2 d2 hlp2
          split at h
          · rename_i σ2 hs2
            obtain ⟨y, hy, rfl, _⟩ := setB_spec hs2
            have hl1 := hle1 _ _ hl
            obtain ⟨fn2, arr2, ld2, e1, e2, e3, e4⟩ := hR1.at_ hlp2 hl1
            have hb := run_beginRound (P := P) e1 rfl
            refine ⟨_, hb, ?_⟩
            have hR2 := hR1.upd (x' := .loop .busy pend2 tm2 ps2 assign2 body2 d2) hlp2 hl1 rfl (sameBut_putObj w1 loc.blk _) e4 ⟨fn2, arr2, ld2, World.putObj_heap_same (heap_lt e1), e2, e3, e4⟩
            have hB2 := hB1.trans ((sameBut_putObj w1 loc.blk (.loop { state := .busy, pending := pend2, fn := fn2, tmps := arr2, params := ps2, assign := assign2, body := body2, defers := ld2.blk })).below e4)
            refine hev (some l) body tm1 dm1 _ _ k ρ1 _ a1 _ hF' ⟨loc, hl1, rfl⟩ (hg.mono hle1) hR2 ht1 hd1 ?_
            split at h
            · rename_i tm3 dm3 σ3 he3
              rw [he3]
              intro a3 w3 ρ3 ht3 hd3 hle3 hR3 hB3
              obtain ⟨v', w4, f1, f2⟩ := endRound_ok (P := P) h hR3 (hle3 _ _ hl1)
              exact ⟨v', w4, f1, f2.later (Rho.le_trans hle1 hle3) (hB2.trans hB3)⟩
            · rename_i tm3 dm3 σ3 he3
              rw [he3]
              intro a3 w3 ρ3 ht3 hd3 hle3 hR3 hB3
              obtain ⟨v', w4, f1, f2⟩ := endRound_ok (P := P) h hR3 (hle3 _ _ hl1)
              exact ⟨v', w4, f1, f2.later (Rho.le_trans hle1 hle3) (hB2.trans hB3)⟩
            · rename_i id tm3 dm3 σ3 he3
              rw [he3]
              intro a3 w3 ρ3 ht3 hd3 hle3 hR3 hB3
              obtain ⟨v', w4, f1, f2⟩ := endRound_ok (P := P) h hR3 (hle3 _ _ hl1)
              exact ⟨v', w4, f1, f2.later (Rho.le_trans hle1 hle3) (hB2.trans hB3)⟩
            · cases h
          · cases h
        · cases h
      · cases h
  · cases h

/-! ### Ranges over a function -/

theorem run_enterLoop_inner {w : World} {l : Nat} {r : Loop} (h : w.heap[l]? = some (.loop r)) (fn : FuncId) (tmps : Array Value) (ps : Array Tmp) (assign body : Code) :
    (Instr.enterLoop fn tmps ps assign body (some l)).run P w = .ok (w.heap.size, []) (w.alloc (.loop { state := .ready, pending := none, fn, tmps, params := ps, assign, body, defers := r.defers })) := by
  unfold Instr.enterLoop
  simp only [Sem.run_bind, run_getLoop h, run_newObj_alloc, Result.andThen, Sem.run_pure]

theorem jumpR_ok {j : Option Code} {tm : Tm} {dm : List Pos} {σ : St} {ρ : Rho} {w : World} {Q : Exit → Act → World → Prop} {F : Fence} {k : Nat} {a : Act} (h : ROk base ρ w (jumpR j tm dm σ) Q) (ht : TR ρ tm a.tmps) (hd : DR ρ dm a.defers) (hR : Rel base ρ σ w) :
    match (generalizing := false) j with
    | none => Q .normal a w
    | some c => c.wpIn F k P Q a w := by
  cases j with
  | none => exact Ends.now h ht hd hR
  | some c =>
    cases c <;> simp only [jumpR] at h <;> try exact h.elim
    · exact wpIn_exit (Ends.now h ht hd hR)
    · exact wpIn_ret (Ends.now h ht hd hR)

/-- Behind the record: the call and the end. -/
theorem go_ok {cf : CallF} {f : Operand} {tm : Tm} {dm : List Pos} {σ0 σ1 : St} {ρ : Rho} {w1 : World} {a : Act} {F : Fence} {k : Nat} {Q : Exit → Act → World → Prop} {loc : Loc}
    (hcf : CfOk P nG base cf) (hF : Wd F) (hg : Glob nG ρ) (hR : Rel base ρ σ1 w1) (ht : TR ρ tm a.tmps) (hd : DR ρ dm a.defers) (hl : ρ σ0.nx = some loc)
    (h : ROk base ρ w1 (match evA nG tm f with
      | .fn g xs ys => match bodyA P g with
        | none => .fail
        | some _ => match cf g (xs ++ (.yl σ0.nx :: ys)) σ1 with
          | some (_, σ2) => match σ2.hp.get σ0.nx with
            | some (.loop st pend tm' ps' a' b' d') => match st with
              | .busy => .fail
              | _ => match setB σ0.nx (.loop .exhausted pend tm' ps' a' b' d') σ2 with
                | some σ3 => jumpR pend tm dm σ3
                | none => .fail
            | _ => .fail
          | none => .fail
      | _ => .fail) Q) :
    ∃ (d : Deferred) (w₁' : World) (g : FuncId) (args : Array Value) (w₂ : World), (resolve a.eval (rangeCall f loc.blk) 0).run P w1 = .ok d w₁' ∧
      (∀ f', Target.leads P w₁' d.target d.args = some f' → F.fn f') ∧
      (invoke d.target d.args).run P w₁' = .ok (.enter g args) w₂ ∧
      (F.depth.isSome = true → 1 ≤ k) ∧
      CallsIn F (k - 1) P g args w₂ (rangePost F k P loc.blk Q a) := by
  have hfv := evA_ok (a := a) hg ht f
  split at h
  · rename_i g xs ys hev
    rw [hev] at hfv
    generalize hfvv : a.eval f = fv at hfv
    cases hfv with
    | fn e1 h1 e2 h2 =>
      rename_i vs us
      split at h
      · exact h.elim
      · rename_i bc hb
        obtain ⟨fnb, cb⟩ := bc
        obtain ⟨_, _, henter⟩ := bodyA_spec hb
        have hres : (resolve a.eval (rangeCall f loc.blk) 0).run P w1 = .ok { target := .fn (.func g) us, args := vs ++ #[.func (.yield loc.blk) #[] #[]] } w1 := by
          simp only [resolve, Deferred.ofValue, hfvv, Sem.run_pure]
          simp [Act.eval]
        refine ⟨_, w1, g, vs ++ #[.func (.yield loc.blk) #[] #[]] ++ us, w1, hres, fun f' _ => hF.fn f', ?_, (fun hd => by rw [hF.depth] at hd; cases hd), ?_⟩
        · simp only [invoke]; exact henter _ _
        · split at h
          · rename_i v2 σ2 hcall
            have hargs : VRs ρ (xs ++ (.yl σ0.nx :: ys)) (vs ++ #[Value.func (.yield loc.blk) #[] #[]] ++ us).toList := by
              have hxs : VRs ρ xs vs.toList := ⟨by simpa using e1, fun i x v p q => h1 i x v p (by simpa using q)⟩
              have hys : VRs ρ ys us.toList := ⟨by simpa using e2, fun i x v p q => h2 i x v p (by simpa using q)⟩
              have := hxs.append (VRs.cons (VR.yl hl) hys)
              simpa using this
            rcases hcf g _ σ1 v2 σ2 hcall F (k - 1) ρ w1 _ hF hg hR hargs with ⟨v', hv, _⟩ | ⟨_, hc⟩
            · rw [henter] at hv; cases hv
            · refine hc.mono fun e w3 hp => ?_
              obtain ⟨v3, ρ3, rfl, _, hle, hR3, hB3⟩ := hp
              split at h
              · rename_i st pend tm' ps' a' b' d' hlp
                have hl3 := hle _ _ hl
                obtain ⟨fn3, arr3, ld3, q1, q2, q3, q4⟩ := hR3.at_ hlp hl3
                have key : st ≠ .busy → ∀ σ3, setB σ0.nx (.loop .exhausted pend tm' ps' a' b' d') σ2 = some σ3 → ROk base ρ w1 (jumpR pend tm dm σ3) Q → rangePost F k P loc.blk Q a (.returned v3) w3 := by
                  intro hst σ3 hs3 hj
                  obtain ⟨y, hy, rfl, _⟩ := setB_spec hs3
                  have hend := run_endLoop (P := P) q1 hst
                  refine ⟨_, _, hend, ?_⟩
                  have hR4 := hR3.upd (x' := .loop .exhausted pend tm' ps' a' b' d') hlp hl3 rfl (sameBut_putObj w3 loc.blk _) q4 ⟨fn3, arr3, ld3, World.putObj_heap_same (heap_lt q1), q2, q3, q4⟩
                  have hB4 := hB3.trans ((sameBut_putObj w3 loc.blk (.loop { state := .exhausted, pending := pend, fn := fn3, tmps := arr3, params := ps', assign := a', body := b', defers := ld3.blk })).below q4)
                  have := jumpR_ok (P := P) (F := F) (k := k) (hj.later hle hB4) (ht.mono hle) (hd.mono hle) hR4
                  cases pend with
                  | none => exact this
                  | some c => exact this
                split at h
                · exact h.elim
                · rename_i hst
                  split at h
                  · rename_i σ3 hs3
                    exact key (fun e => hst e) σ3 hs3 h
                  · exact h.elim
              · exact h.elim
          · exact h.elim
  · exact h.elim

end
end --all
end Go.Ev

namespace Go.Ev
noncomputable section --all

section
variable {P : Program} {nG : Nat} {base : Bd}

/-! ### The statement, and all code -/

theorem rangeW_ok {cf : CallF} (hcf : CfOk P nG base cf) {rnd : Option Pos} {f : Operand} {ps : Array Tmp} {assign body : Code} {tm : Tm} {dm : List Pos} {σ : St} {F : Fence} {k : Nat} {ρ : Rho} {w : World} {a : Act} {Q : Exit → Act → World → Prop}
    (hF : Wd F) (hrnd : RndOk ρ rnd F) (hg : Glob nG ρ) (hR : Rel base ρ σ w) (ht : TR ρ tm a.tmps) (hd : DR ρ dm a.defers) (h : ROk base ρ w (rangeW P nG cf rnd f ps assign body tm dm σ) Q) :
    (Code.rangeFunc f ps assign body).wpIn F k P Q a w := by
  refine wpIn_rangeFunc fun fn _ => ?_
  unfold rangeW at h
  cases rnd with
  | none =>
    simp only at h
    have hro : F.round = none := hrnd
    split at h
    · exact h.elim
    · rename_i σ0 h0
      obtain ⟨hn0, rfl⟩ := newB_spec h0
      split at h
      · exact h.elim
      · rename_i σ1 h1
        obtain ⟨hn1, rfl⟩ := newB_spec h1
        simp only at h hn1 ⊢
        have hR0 := hR.new (l := ⟨w.heap.size, 0, 0⟩) (o := .deferred (some [])) (x := .dfr true) hn0 rfl ⟨World.alloc_heap_new _ _, hR.mine⟩
        have le0 := Rho.le_upd (l := ⟨w.heap.size, 0, 0⟩) (hR.unset hn0)
        have hB0 : Bel base w (w.alloc (.deferred (some []))) := (Bel.refl base w).alloc hR.le _
        have hRn := hR0.nxt σ.nx.succ
        have hR1 := hRn.new (l := ⟨(w.alloc (.deferred (some []))).heap.size, 0, 0⟩) (o := .loop { state := .ready, pending := none, fn, tmps := a.tmps, params := ps, assign, body, defers := w.heap.size })
          (x := .loop .ready none tm ps assign body σ.nx) hn1 rfl
          ⟨fn, a.tmps, ⟨w.heap.size, 0, 0⟩, World.alloc_heap_new _ _, (ht.mono le0).mono (Rho.le_upd (hRn.unset hn1)), (Rho.le_upd (hRn.unset hn1)) _ _ Rho.upd_same, hR0.mine⟩
        have le1 := Rho.le_upd (l := ⟨(w.alloc (.deferred (some []))).heap.size, 0, 0⟩) (hRn.unset hn1)
        have hB1 := hB0.alloc (o := .loop { state := .ready, pending := none, fn, tmps := a.tmps, params := ps, assign, body, defers := w.heap.size }) hR0.le
        have le := Rho.le_trans le0 le1
        obtain ⟨d, w₁', g, args, w₂, r1, r2, r3, r4, r5⟩ := go_ok (σ0 := { σ with hp := σ.hp.set (.dfr true) σ.nx, nx := σ.nx.succ }) (dm := σ.nx :: dm) (a := { a with defers := [{ target := .collected w.heap.size, args := #[] }] ++ a.defers }) (k := k) (loc := ⟨(w.alloc (.deferred (some []))).heap.size, 0, 0⟩)
          hcf hF (hg.mono le) (hR1.nxt σ.nx.succ.succ) (ht.mono le) (.cons (le1 _ _ Rho.upd_same) (hd.mono le)) Rho.upd_same (h.later le hB1)
        refine ⟨w.heap.size + 1, [{ target := .collected w.heap.size, args := #[] }], (w.alloc (.deferred (some []))).alloc (.loop { state := .ready, pending := none, fn, tmps := a.tmps, params := ps, assign, body, defers := w.heap.size }), d, w₁', g, args, w₂, ?_, ?_, r2, r3, r4, ?_⟩
        · rw [hro]; exact run_enterLoop_outer fn a.tmps ps assign body
        · rw [World.size_alloc] at r1; exact r1
        · rw [World.size_alloc] at r5; exact r5
  | some l =>
    simp only at h
    obtain ⟨loc, hl, hro⟩ := hrnd
    split at h
    · rename_i st0 pend0 tm0 ps0 as0 bo0 d0 hlp
      obtain ⟨fn0, arr0, ld0, q1, q2, q3, q4⟩ := hR.at_ hlp hl
      split at h
      · exact h.elim
      · rename_i σ1 h1
        obtain ⟨hn1, rfl⟩ := newB_spec h1
        have hR1 := hR.new (l := ⟨w.heap.size, 0, 0⟩) (o := .loop { state := .ready, pending := none, fn, tmps := a.tmps, params := ps, assign, body, defers := ld0.blk })
          (x := .loop .ready none tm ps assign body d0) hn1 rfl
          ⟨fn, a.tmps, ld0, World.alloc_heap_new _ _, ht.mono (Rho.le_upd (hR.unset hn1)), (Rho.le_upd (hR.unset hn1)) _ _ q3, hR.mine⟩
        have le := Rho.le_upd (l := ⟨w.heap.size, 0, 0⟩) (hR.unset hn1)
        have hB1 := (Bel.refl base w).alloc (o := .loop { state := .ready, pending := none, fn, tmps := a.tmps, params := ps, assign, body, defers := ld0.blk }) hR.le
        obtain ⟨d, w₁', g, args, w₂, r1, r2, r3, r4, r5⟩ := go_ok (σ0 := σ) (dm := dm) (a := { a with defers := [] ++ a.defers }) (k := k) (loc := ⟨w.heap.size, 0, 0⟩)
          hcf hF (hg.mono le) (hR1.nxt σ.nx.succ) (ht.mono le) (hd.mono le) Rho.upd_same (h.later le hB1)
        refine ⟨w.heap.size, [], _, d, w₁', g, args, w₂, ?_, r1, r2, r3, r4, r5⟩
        rw [hro]
        exact run_enterLoop_inner q1 fn a.tmps ps assign body
    · exact h.elim

theorem iter_ok {f : Tm → List Pos → St → R} {c : Code} {F : Fence} {k : Nat} {rnd : Option Pos}
    (hf : ∀ (tm : Tm) (dm : List Pos) (σ : St) (ρ : Rho) (w : World) (a : Act) (Q : Exit → Act → World → Prop), RndOk ρ rnd F → Glob nG ρ → Rel base ρ σ w → TR ρ tm a.tmps → DR ρ dm a.defers → ROk base ρ w (f tm dm σ) Q → c.wpIn F k P Q a w) :
    ∀ (n : Nat) (tm : Tm) (dm : List Pos) (σ : St) (ρ : Rho) (w : World) (a : Act) (Q : Exit → Act → World → Prop), RndOk ρ rnd F → Glob nG ρ → Rel base ρ σ w → TR ρ tm a.tmps → DR ρ dm a.defers → ROk base ρ w (iter f n tm dm σ) Q →
      Code.roundsIn F k P c Q n a w := by
  intro n
  induction n with
  | zero => intro tm dm σ ρ w a Q _ _ _ _ _ h; exact h.elim
  | succ n ih =>
    intro tm dm σ ρ w a Q hr hg hR ht hd h
    rw [roundsIn_succ]
    refine hf tm dm σ ρ w a _ hr hg hR ht hd ?_
    simp only [iter] at h
    split at h
    · rename_i tm' dm' σ' he
      rw [he]
      intro a' w' ρ' ht' hd' hle hR' hB
      exact ih tm' dm' σ' ρ' w' a' Q (hr.mono hle) (hg.mono hle) hR' ht' hd' (h.later hle hB)
    · rename_i hn
      cases hfe : f tm dm σ with
      | nrm tm' dm' σ' => exact absurd hfe (hn _ _ _)
      | _ => rw [hfe] at h; exact h

/-- A scope that no jump of its own comes to. -/
theorem wpIn_scope {F : Fence} {k : Nat} {c : Code} {Q : Exit → Act → World → Prop} {a : Act} {w : World} (h : c.wpIn F k P (Exit.noGoto Q) a w) : (Code.scope c).wpIn F k P Q a w := by
  intro b ks cs hro hb hr
  have h0 : (lone (b.atR a (.code (.scope c) :: ks)) cs w).fenced P F := fenced_calm hb hr rfl
  have s0 : step P (lone (b.atR a (.code (.scope c) :: ks)) cs w) = .next (lone (b.atR a (.code c :: .inScope c :: ks)) cs w) := step_lone_go (by simp [stepG, stepG.exec, Frame.atR])
  obtain ⟨e, a₁, w₁, hq, harr⟩ := h b (.inScope c :: ks) cs hro hb hr
  cases e with
  | normal =>
    have s1 : step P (lone (b.atR a₁ (.inScope c :: ks)) cs w₁) = .next (lone (b.atR a₁ ks) cs w₁) := step_lone_go (by simp [stepG, stepG.exec, Frame.atR])
    exact ⟨.normal, a₁, w₁, hq, .head h0 s0 (StepsIn.trans harr (.one (fenced_calm (fr := b.atR a₁ (.inScope c :: ks)) hb hr rfl) s1))⟩
  | exit id =>
    exact ⟨.exit id, a₁, w₁, hq, fun k' hk => .head h0 s0 (harr.1 k' (by simp [exitTo, hk])), fun hr' hk => let ⟨k₁, h1, h2⟩ := harr.2 hr' (by simp [exitTo, hk]); ⟨k₁, h1, .head h0 s0 h2⟩⟩
  | goto l => exact hq.elim
  | ret => exact ⟨_, a₁, w₁, hq, .of_steps (.one h0 s0) harr⟩
  | panic ch => exact ⟨_, a₁, w₁, hq, .of_steps (.one h0 s0) harr⟩
  | outgrown => exact ⟨_, a₁, w₁, hq, .of_steps (.one h0 s0) harr⟩

/-- What the regions that draw are to be shown to do. -/
def DrOk (P : Program) (nG : Nat) (base : Bd) (cf : CallF) : Prop :=
  ∀ (id : Nat) (ops : Array Oper) (tm : Tm) (σ : St) (tm' : Tm) (σ' : St), drawRegion P nG cf ops tm σ = some (tm', σ') → ∀ (F : Fence) (k : Nat) (ρ : Rho) (w : World) (a : Act) (Q : Exit → Act → World → Prop), Wd F → Glob nG ρ → Rel base ρ σ w → TR ρ tm a.tmps →
    Then base ρ w a tm' σ' (Q .normal) → (Code.region id ops true).wpIn F k P Q a w

theorem evC_ok {X : ExtF} (hX : ExtOk P nG base X) (hD : ∀ n, CodeOk P nG base (evC P nG X n) → DrOk P nG base (callW P nG X (evC P nG X n))) : ∀ n, CodeOk P nG base (evC P nG X n) := by
  intro n
  induction n with
  | zero => intro rnd c tm dm σ F k ρ w a Q _ _ _ _ _ _ h; exact h.elim
  | succ n ih =>
    intro rnd c tm dm σ F k ρ w a Q hF hr hg hR ht hd h
    have hcf : CfOk P nG base (callW P nG X (evC P nG X n)) := callW_ok hX ih
    have hyf : YfOk P nG base (yieldW (evC P nG X n)) := yieldW_ok ih
    unfold evC at h
    split at h
    · exact wpIn_skip (Ends.now h ht hd hR)
    · exact wpIn_label (Ends.now h ht hd hR)
    · -- seq
      rename_i x y
      refine wpIn_seq ?_
      refine ih rnd x tm dm σ F k ρ w a _ hF hr hg hR ht hd ?_
      split at h
      · rename_i tm' dm' σ' he
        rw [he]
        intro a' w' ρ' ht' hd' hle hR' hB
        exact ih rnd y tm' dm' σ' F k ρ' w' a' Q hF (hr.mono hle) (hg.mono hle) hR' ht' hd' (h.later hle hB)
      · rename_i hn
        cases hfe : evC P nG X n rnd x tm dm σ with
        | nrm tm' dm' σ' => exact absurd hfe (hn _ _ _)
        | _ => rw [hfe] at h; exact h
    · -- cond
      rename_i c' x y
      have hv := evA_ok (a := a) hg ht c'
      split at h
      · rename_i he
        rw [he] at hv
        generalize hvv : a.eval c' = v at hv
        cases hv
        exact wpIn_cond_true hvv (ih rnd x tm dm σ F k ρ w a Q hF hr hg hR ht hd h)
      · rename_i he
        rw [he] at hv
        generalize hvv : a.eval c' = v at hv
        cases hv
        exact wpIn_cond_false hvv (ih rnd y tm dm σ F k ρ w a Q hF hr hg hR ht hd h)
      · exact h.elim
    · -- block
      rename_i id x
      refine wpIn_block ?_
      refine ih rnd x tm dm σ F k ρ w a _ hF hr hg hR ht hd ?_
      split at h
      · rename_i j tm' dm' σ' he
        rw [he]
        split at h
        · rename_i hj
          have hj := Nat.eq_of_beq_eq_true hj
          intro a' w' ρ' ht' hd' hle hR' hB
          simp only [Exit.inBlock, hj, if_true]
          exact h a' w' ρ' ht' hd' hle hR' hB
        · rename_i hj
          have hj : j ≠ id := fun e => by rw [e] at hj; simp at hj
          intro a' w' ρ' ht' hd' hle hR' hB
          simp only [Exit.inBlock, hj, if_false]
          exact h a' w' ρ' ht' hd' hle hR' hB
      · rename_i hn
        cases hfe : evC P nG X n rnd x tm dm σ with
        | ex j tm' dm' σ' => exact absurd hfe (hn _ _ _ _)
        | _ => rw [hfe] at h; exact h
    · -- loop
      rename_i x
      refine wpIn_loop_rounds n ?_
      exact iter_ok (fun tm dm σ ρ w a Q hr hg hR ht hd h => ih rnd x tm dm σ F k ρ w a Q hF hr hg hR ht hd h) n tm dm σ ρ w a Q hr hg hR ht hd h
    · -- scope
      rename_i x
      refine wpIn_scope ?_
      refine ih rnd x tm dm σ F k ρ w a _ hF hr hg hR ht hd ?_
      cases hfe : evC P nG X n rnd x tm dm σ with
      | _ => rw [hfe] at h; exact h
    · exact wpIn_exit (Ends.now h ht hd hR)
    · exact wpIn_ret (Ends.now h ht hd hR)
    · -- region
      rename_i id ops
      split at h
      · rename_i tm' σ' hs
        refine wpIn_region ?_
        refine seqOps_ok hcf hyf hF (List.range ops.size) tm σ tm' σ' hs ρ w a hg hR ht ?_
        intro a' w' ρ' e1 e2 e3 e4 e5
        exact h a' w' ρ' e2 (by rw [e1]; exact hd.mono e3) e3 e4 e5
      · exact h.elim
    · -- region that draws
      rename_i id ops
      split at h
      · rename_i tm' σ' hs
        refine hD n ih id ops tm σ tm' σ' hs F k ρ w a Q hF hg hR ht ?_
        intro a' w' ρ' e1 e2 e3 e4 e5
        exact h a' w' ρ' e2 (by rw [e1]; exact hd.mono e3) e3 e4 e5
      · exact h.elim
    · -- a range over a function
      exact rangeW_ok hcf hF hr hg hR ht hd h
    · exact h.elim

end
end --all
end Go.Ev
