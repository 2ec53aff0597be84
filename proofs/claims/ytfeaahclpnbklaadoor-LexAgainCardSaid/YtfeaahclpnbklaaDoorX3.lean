/- The reflective weakest precondition: definitions. -/
import Derived.Test.YtfeaahclpnbklaaDoorX2
import Derived.RangeFuncLeaves
namespace Go.X

/-! ### what a call, a run comes to -/
def Callable (P : Program) (f : FuncId) : Prop := ∃ fn, P.funcs[f]? = some fn ∧ fn.body.isSome = true ∧ (fn.name == "runtime.NumGoroutine") = false
/-- the blocks of an activation's deferred calls lie as they lay; nothing is taken away -/
structure KeepsD (w w' : World) : Prop where
  os : w'.os = w.os
  tape : w'.tape = w.tape
  output : w'.output = w.output
  size : w.heap.size ≤ w'.heap.size
  def_ : ∀ r : Nat, w.heap[r]? = some (Obj.deferred (some [])) → w'.heap[r]? = some (Obj.deferred (some []))
/-- the blocks of the activation's own deferred calls, laid since block n, are shut as it leaves -/
structure ShutD (n : Nat) (w w' : World) : Prop where
  os : w'.os = w.os
  tape : w'.tape = w.tape
  output : w'.output = w.output
  size : w'.heap.size = w.heap.size
  at_ : ∀ k : Nat, w'.heap[k]? = w.heap[k]? ∨ (n ≤ k ∧ w.heap[k]? = some (Obj.deferred (some [])) ∧ w'.heap[k]? = some (Obj.deferred none))
def XCP (P : Program) (f : FuncId) (args : List Value) (w : World) (K : Value → World → Prop) (KP : List PanicEntry → World → Prop) : Prop :=
  Callable P f ∧ Calls P f args.toArray w fun e w' => KeepsD w w' ∧ match e with
    | .returned v => K v w'
    | .panicked ch => KP ch w'
    | .outgrown => False
def NP : List PanicEntry → World → Prop := fun _ _ => False
/-- yield is called: a round of loop l -/
def XYield (P : Program) (l : Nat) (args : List Value) (w : World) (K : Value → World → Prop) (KP : List PanicEntry → World → Prop) : Prop :=
  ∃ fn tmps assign body, (Instr.yield l args.toArray).run P w = .ok (.round l fn tmps assign body) w ∧
    RoundIn Fence.wide 0 P l fn tmps assign body w fun e w' => KeepsD w w' ∧ match e with
      | .returned v => K v w'
      | .panicked ch => KP ch w'
      | .outgrown => False
def XCV (P : Program) (v : Value) (args : List Value) (w : World) (K : Value → World → Prop) (KP : List PanicEntry → World → Prop) : Prop :=
  match v with
  | .func (.func f) first cap => XCP P f (first.toList ++ (args ++ cap.toList)) w K KP
  | .func (.yield l) first _ => XYield P l (first.toList ++ args) w K KP
  | _ => False
/-- a value's cells -/
def boxK (v : Value) (K : Array Value → Prop) : Prop :=
  match v with
  | .agg cs => K cs
  | .bool b => K #[.bool b]
  | .int k n => K #[.int k n]
  | .string s => K #[.string s]
  | .pointer a => K #[.pointer a]
  | .slice a l c => K #[.slice a l c]
  | .map r => K #[.map r]
  | .func f a b => K #[.func f a b]
  | .nilFunc => K #[.nilFunc]
  | .iface t u => K #[.iface t u]
  | .nilIface => K #[.nilIface]
  | _ => False
/-- what is no nil -/
def nilK (v : Value) (K : Value → Prop) : Prop :=
  match v with
  | .func (.func f) a b => K (.func (.func f) a b)
  | .iface t u => K (.iface t u)
  | _ => False
/-- a method of an interface value -/
def XInv (P : Program) (v : Value) (name : String) (args : List Value) (w : World) (K : Value → World → Prop) (KP : List PanicEntry → World → Prop) : Prop :=
  match v with
  | .iface t u => ∃ (f : FuncId) (recv : Value), (method (P.types.size + Made.depth) t u name).run P w = .ok (f, recv) w ∧ XCP P f (recv :: args) w K KP
  | _ => False
def XCF (P : Program) (v : Value) (args : List Value) (w : World) (K : Value → World → Prop) (KP : List PanicEntry → World → Prop) : Prop :=
  match v with
  | .func (.func f) first cap => XCP P f (first.toList ++ (args ++ cap.toList)) w K KP
  | _ => False
@[irreducible] def XRun (P : Program) (s : Sem Value) (w : World) (K : Value → World → Prop) : Prop :=
  match s.run P w with
  | .ok v w' => KeepsD w w' ∧ K v w'
  | _ => False
@[irreducible] def XRunU (P : Program) (s : Sem Unit) (w : World) (K : World → Prop) : Prop :=
  match s.run P w with
  | .ok _ w' => KeepsD w w' ∧ K w'
  | _ => False
def xptr (a : Option Addr) (k : Addr → Prop) : Prop :=
  match a with
  | some p => k p
  | none => False
def xpanic (v : Value) (KP : List PanicEntry → World → Prop) (w : World) : Prop :=
  match v with
  | .iface t u => KP [{ v := .iface t u, recovered := false }] w
  | _ => False
def cellsAt (w : World) (p : Addr) : Nat → List Value → Prop
  | _, [] => True
  | i, v :: r => w.cell? (p.add i) = some v ∧ cellsAt w p (i + 1) r
def storeP (w : World) (p : Addr) (v : Value) (k : World → Prop) : Prop :=
  (∃ u, w.cell? p = some u) ∧ w.frozen? p = false ∧ k (w.setCell p v)
def storesAt (p : Addr) : Nat → List Value → World → (World → Prop) → Prop
  | _, [], w, k => k w
  | i, v :: r, w, k => storeP w (p.add i) v fun w => storesAt p (i + 1) r w k
def exT (ti : TI) (k : Value → Prop) : Prop :=
  match ti with
  | .tup ks => Kds.ex ks fun vs => k (.tuple vs.toArray)
  | .bool => ∃ b : Bool, k (.bool b)
  | .int kd => ∃ n : Int, k (.int kd n)
  | .str => ∃ s : ByteArray, k (.string s)
  | .ptr => ∃ a : Option Addr, k (.pointer a)
  | .slc _ _ => ∃ (a : Option Addr) (l c : Nat), k (.slice a l c)
  | .struct _ ks => Scs.ex ks fun vs => k (.agg vs.toArray)
  | .arr _ _ _ ks => Scs.ex ks fun vs => k (.agg vs.toArray)
  | .map => ∃ r : Option Nat, k (.map r)
  | _ => ∃ v, k v
/-- what a type assertion yields -/
def assertT (T : Tab) (t : Nat) (b : Bool) (ot : Nat) (k : Value → Prop) : Prop :=
  match b with
  | true => need (T.kd t) fun kd => exT (.tup [kd, .sc .bool]) k
  | false => exT (T.ty ot) k
def oneCells : List Value → Bool
  | [] => true
  | v :: r => v.oneCell' && oneCells r
def shiftI (op : BinOp) (k : IntKind) (x y : Int) : Int :=
  match op with
  | .shl => k.wrap (x * 2 ^ (min y.toNat k.bits))
  | _ => x.fdiv (2 ^ (min y.toNat k.bits))
/-- an index into a slice of so many elements of so many cells -/
def sliceK (sz : Nat) (a : Option Addr) (len cap : Nat) (lo hi mx : Option Int) (k : Option Addr → Nat → Nat → Prop) : Prop :=
  match mx with
  | none => match hi with
    | none => match lo with
      | none => k a len cap
      | some l => 0 ≤ l ∧ l ≤ len ∧ k (if cap = l.toNat then a else a.map (·.add (l.toNat * sz))) (len - l.toNat) (cap - l.toNat)
    | some h => match lo with
      | none => 0 ≤ h ∧ h ≤ cap ∧ k a h.toNat cap
      | some l => 0 ≤ l ∧ l ≤ h ∧ h ≤ cap ∧ k (if cap = l.toNat then a else a.map (·.add (l.toNat * sz))) (h.toNat - l.toNat) (cap - l.toNat)
  | some m => match hi, lo with
    | some h, none => 0 ≤ h ∧ h ≤ m ∧ m ≤ cap ∧ k a h.toNat m.toNat
    | some h, some l => 0 ≤ l ∧ l ≤ h ∧ h ≤ m ∧ m ≤ cap ∧ k (if m.toNat = l.toNat then a else a.map (·.add (l.toNat * sz))) (h.toNat - l.toNat) (m.toNat - l.toNat)
    | none, _ => False
def evO (ρ : Env) (o : Option Operand) : Option (Option Value) :=
  match o with
  | none => some none
  | some x => match ev ρ x with
    | some v => some (some v)
    | none => none
def intO (o : Option Value) : Option (Option Int) :=
  match o with
  | none => some none
  | some (.int _ n) => some (some n)
  | _ => none
def evP (ρ : Env) : List (Nat × Operand) → Option (List (Nat × Value))
  | [] => some []
  | (i, x) :: r => match ev ρ x, evP ρ r with
    | some v, some vs => some ((i, v) :: vs)
    | _, _ => none
/-- a struct's or an array's cells, some parts laid over the zero value -/
def fillL (place : Nat → Option (Nat × Nat)) (cells : List Value) : List (Nat × Value) → Option (List Value)
  | [] => some cells
  | (i, v) :: r => match place i with
    | none => none
    | some (off, size) =>
      bif Nat.beq v.cells.toList.length size && Nat.ble (off + v.cells.toList.length) cells.length then
        fillL place (cells.take off ++ (v.cells.toList ++ cells.drop (off + v.cells.toList.length))) r
      else none
def placeOf : TI → Nat → Option (Nat × Nat)
  | .struct fs _, i => match nth fs i with
    | some f => some (f.off, f.kd.size)
    | none => none
  | .arr _ _ sz _, i => some (i * sz, sz)
  | _, _ => none
def buildV (ti : TI) (parts : List (Nat × Value)) : Option Value :=
  match ti with
  | .struct _ ks => match fillL (placeOf ti) (ks.map Sc.zero) parts with
    | some cs => some (.agg cs.toArray)
    | none => none
  | .arr _ _ _ ks => match fillL (placeOf ti) (ks.map Sc.zero) parts with
    | some cs => some (.agg cs.toArray)
    | none => none
  | _ => none

/-! ### one operation -/
def xEff (P : Program) (T : Tab) (o : Oper) (ρ : Env) (w : World) (K : Value → World → Prop) (KP : List PanicEntry → World → Prop) : Prop :=
  match o.op with
  | .nilCheck x => need (ev ρ x) fun v => match v with
    | .pointer a => xptr a fun p => K (.pointer (some p)) w
    | v => nilK v fun v => K v w
  | .alloc t => need (T.kd t) fun k => K (.pointer (some ⟨w.heap.size, 0, none⟩)) (w.alloc (.cells (k.scs.map Sc.zero).toArray t))
  | .box t x => need (ev ρ x) fun v => boxK v fun cs => K (.pointer (some ⟨w.heap.size, 0, none⟩)) (w.alloc (.cells cs t))
  | .build t parts => need (evP ρ parts.toList) fun ps => need (buildV (T.ty t) ps) fun v => K v w
  | .buildSlice t n parts => need (evP ρ parts.toList) fun ps => XRun P (Instr.buildSlice t n ps.toArray) w fun v w => exT (T.ty o.type) fun u => v = u ∧ K u w
  | .load t x => need (ev ρ x) fun v => match v with
    | .pointer a => xptr a fun p => match T.kd t with
      | some (.sc s) => s.ex fun u => w.cell? p = some u ∧ K u w
      | some (.agg ks) => Scs.ex ks fun vs => cellsAt w p 0 vs ∧ K (.agg vs.toArray) w
      | none => False
    | _ => False
  | .store t x y => need (ev ρ x) fun v => need (ev ρ y) fun u => match v with
    | .pointer a => xptr a fun p => match T.kd t with
      | some (.sc _) => bif u.oneCell' then storeP w p u (K undef) else False
      | some (.agg ks) => match u with
        | .agg cs => bif oneCells cs.toList && Nat.beq cs.toList.length ks.length then storesAt p 0 cs.toList w (K undef) else False
        | _ => False
      | none => False
    | _ => False
  | .fieldAddr t x f => need (ev ρ x) fun v => match v, T.ty t with
    | .pointer a, .struct fs _ => xptr a fun p => need (nth fs f) fun i => K (.pointer (some (p.add i.off))) w
    | _, _ => False
  | .indexAddr t x y => need (ev ρ x) fun v => need (ev ρ y) fun u => match v, T.ty t, u with
    | .slice a l _, .slc _ sz, .int _ n => xptr a fun p => 0 ≤ n ∧ n < l ∧ K (.pointer (some (p.add (n.toNat * sz)))) w
    | .pointer a, .arr l _ sz _, .int _ n => xptr a fun p => 0 ≤ n ∧ n < l ∧ K (.pointer (some (p.add (n.toNat * sz)))) w
    | _, _, _ => False
  | .slice t x lo hi mx => need (ev ρ x) fun v => need (evO ρ lo) fun lo => need (evO ρ hi) fun hi => need (evO ρ mx) fun mx => match v, T.ty t with
    | .slice a l c, .slc _ sz => need (intO lo) fun lo => need (intO hi) fun hi => need (intO mx) fun mx => sliceK sz a l c lo hi mx fun a l c => K (.slice a l c) w
    | v, _ => XRun P (Instr.sliceAt t v lo hi mx) w fun v w => exT (T.ty o.type) fun u => v = u ∧ K u w
  | .binOp op t x y _ => need (ev ρ x) fun v => need (ev ρ y) fun u => bif isIf (T.ty t) then XRun P (do eqGuard op t x y v u; binOp op t v u) w (fun v w => exT (T.ty o.type) fun u => v = u ∧ K u w) else match v, u with
    | .int k a, .int k' b => match op with
      | .quo => bif decide (k = k') then b ≠ 0 ∧ K (.int k (k.wrap (a.tdiv b))) w else False
      | .rem => bif decide (k = k') then b ≠ 0 ∧ K (.int k (a.tmod b)) w else False
      | .shl => 0 ≤ b ∧ K (.int k (shiftI .shl k a b)) w
      | .shr => 0 ≤ b ∧ K (.int k (shiftI .shr k a b)) w
      | _ => False
    | v, u => XRun P (do eqGuard op t x y v u; binOp op t v u) w fun v w => exT (T.ty o.type) fun u => v = u ∧ K u w
  | .convert s d x => need (ev ρ x) fun v => XRun P (convert s d v) w fun v w => exT (T.ty o.type) fun u => v = u ∧ K u w
  | .makeInterface t x => need (ev ρ x) fun v => XRun P (Instr.makeInterface t v) w fun v w => exT (T.ty o.type) fun u => v = u ∧ K u w
  | .makeSlice t l c => need (ev ρ l) fun l => need (ev ρ c) fun c => XRun P (Instr.makeSlice t l c) w fun v w => exT (T.ty o.type) fun u => v = u ∧ K u w
  | .index t x y => need (ev ρ x) fun v => need (ev ρ y) fun u => XRun P (Instr.index t v u) w fun v w => exT (T.ty o.type) fun u => v = u ∧ K u w
  | .lookup t x y ok => need (ev ρ x) fun v => need (ev ρ y) fun u => XRun P (Instr.lookup t v u ok) w fun v w => exT (T.ty o.type) fun u => v = u ∧ K u w
  | .mapUpdate t m x y => need (ev ρ m) fun m => need (ev ρ x) fun v => need (ev ρ y) fun u => XRunU P (Instr.mapUpdate t m v u) w (K undef)
  | .insert t m x y => need (ev ρ m) fun m => need (ev ρ x) fun v => need (ev ρ y) fun u => XRunU P (Instr.mapUpdate t m v u) w (K undef)
  | .mapEntry t m x => need (ev ρ m) fun m => need (ev ρ x) fun v => XRun P (Instr.mapEntry t m v) w fun v w => exT (T.ty o.type) fun u => v = u ∧ K u w
  | .entryStore t m x y => need (ev ρ m) fun m => need (ev ρ x) fun v => need (ev ρ y) fun u => XRunU P (Instr.entryStore t m v u) w (K undef)
  | .makeMap t none => XRun P (Instr.makeMap t none) w fun v w => exT (T.ty o.type) fun u => v = u ∧ K u w
  | .makeMap t (some x) => need (ev ρ x) fun v => XRun P (Instr.makeMap t (some v)) w fun v w => exT (T.ty o.type) fun u => v = u ∧ K u w
  | .range t x => need (ev ρ x) fun v => XRun P (Instr.range t v) w K
  | .next x b => need (ev ρ x) fun v => XRun P (Instr.next v b o.type) w fun v w => exT (T.ty o.type) fun u => v = u ∧ K u w
  | .entry x => need (ev ρ x) fun v => XRun P (Instr.entry v) w K
  | .typeAssert x t t' b => need (ev ρ x) fun v => XRun P (Instr.typeAssert v t t' b) w fun v w => assertT T t' b o.type fun u => v = u ∧ K u w
  | .panic x => need (ev ρ x) fun v => xpanic v KP w
  | .call { callee := .value f, args, .. } => need (ev ρ f) fun fv => need (evs ρ args.toList) fun vs => XCV P fv vs w (fun v w => exT (T.ty o.type) fun u => v = u ∧ K u w) KP
  | .call { callee := .invoke x name, args, .. } => need (ev ρ x) fun v => need (evs ρ args.toList) fun vs => XInv P v name vs w (fun v w => exT (T.ty o.type) fun u => v = u ∧ K u w) KP
  | .call { callee := .builtin b, args, argTypes } => need (evs ρ args.toList) fun vs => match b with
    | .append => XRun P (Builtin.append_ argTypes o.type vs.toArray) w fun v w => exT (T.ty o.type) fun u => v = u ∧ K u w
    | .copy => XRun P (Builtin.copy_ argTypes o.type vs.toArray) w fun v w => exT (T.ty o.type) fun u => v = u ∧ K u w
    | .max => XRun P (Builtin.max_ argTypes o.type vs.toArray) w fun v w => exT (T.ty o.type) fun u => v = u ∧ K u w
    | .min => XRun P (Builtin.min_ argTypes o.type vs.toArray) w fun v w => exT (T.ty o.type) fun u => v = u ∧ K u w
    | .delete => XRun P (Builtin.delete_ argTypes o.type vs.toArray) w K
    | .len => XRun P (Builtin.len_ argTypes o.type vs.toArray) w fun v w => exT (T.ty o.type) fun u => v = u ∧ K u w
    | _ => False
  | _ => False
def xOp (P : Program) (T : Tab) (o : Oper) (ρ : Env) (w : World) (K : Value → World → Prop) (KP : List PanicEntry → World → Prop) : Prop :=
  match pureOp T o.op ρ with
  | some v => K v w
  | none => xEff P T o ρ w K KP

/-! ### a region -/
inductive Sg
  | done
  | ops (n : Nat) (s : Sg)
  | grp (n : Nat) (inner s : Sg)
  | grpP (n : Nat) (inner s : Sg)
def dsts : List Oper → List Nat
  | [] => []
  | o :: r => match o.dst with
    | some d => d :: dsts r
    | none => dsts r
def dstAt (ops : List Oper) (j : Nat) : Option Nat :=
  match nth ops j with
  | some o => o.dst
  | none => none
def flagIs (v : Option Value) (b : Bool) : Bool :=
  match v with
  | some (.bool x) => x == b
  | _ => false
def gOk (ops : List Oper) (ρ : Env) (g : Option (Nat × Bool)) : Bool :=
  match g with
  | none => true
  | some (j, want) => match dstAt ops j with
    | some d => flagIs (ρ d) want
    | none => false
/-- every operation of the group waits on flag j, or on a flag inside the group -/
def skipsAll (ops : List Oper) (j : Nat) (want : Bool) : List Nat → List Oper → Bool
  | _, [] => true
  | seen, o :: r =>
    (match o.guard with
      | none => false
      | some (i, b) => (Nat.beq i j && (b == want)) || (match dstAt ops i with
        | some d => memb d seen
        | none => false)) &&
    (match o.dst with
      | some d => skipsAll ops j want (d :: seen) r
      | none => skipsAll ops j want seen r)
def grpHead (ops g : List Oper) (pk : Oper) : Option (Nat × Bool × Nat) :=
  match g with
  | [] => none
  | o :: _ => match o.guard with
    | none => none
    | some (j, want) => match dstAt ops j with
      | none => none
      | some d =>
        bif !(memb d (dsts g)) && skipsAll ops j want [] g then
          match want, pk.op with
          | false, .pick (.tmp c) (.const (.bool true)) (.tmp y) => bif Nat.beq c d then some (d, false, y) else none
          | true, .pick (.tmp c) (.tmp y) (.const (.bool false)) => bif Nat.beq c d then some (d, true, y) else none
          | _, _ => none
        else none
def xPureN (T : Tab) (ops : List Oper) : Nat → List Oper → Env → Option (List Oper × Env)
  | 0, l, ρ => some (l, ρ)
  | _ + 1, [], _ => none
  | n + 1, o :: l, ρ => bif gOk ops ρ o.guard then
      match pureOp T o.op ρ with
      | some v => xPureN T ops n l (ρ.put o.dst v)
      | none => none
    else none
def mix : Bool → Bool → Bool → Bool
  | true, f, b => f && b
  | false, f, b => f || b
def boolOf (v : Option Value) : Option Bool :=
  match v with
  | some (.bool b) => some b
  | _ => none
def xPure (T : Tab) (ops : List Oper) : Sg → List Oper → Env → Option Env
  | .done, [], ρ => some ρ
  | .done, _ :: _, _ => none
  | .ops n s, l, ρ => match xPureN T ops n l ρ with
    | some (l', ρ') => xPure T ops s l' ρ'
    | none => none
  | .grp .., _, _ => none
  | .grpP n inner s, l, ρ => match l.drop n with
    | [] => none
    | pk :: l' => match grpHead ops (l.take n) pk with
      | none => none
      | some (d, want, y) => match boolOf (ρ d) with
        | none => none
        | some f => match xPure T ops inner (l.take n) (ρ.set d (.bool want)) with
          | none => none
          | some ρ' => match boolOf (ρ' y) with
            | none => none
            | some b => bif gOk ops (ρ.del (dsts (l.take n))) pk.guard then
                xPure T ops s l' ((ρ.del (dsts (l.take n))).put pk.dst (.bool (mix want f b)))
              else none
def xOpsN (P : Program) (T : Tab) (ops : List Oper) (KP : List PanicEntry → World → Prop) : Nat → List Oper → Env → World → (List Oper → Env → World → Prop) → Prop
  | 0, l, ρ, w, K => K l ρ w
  | _ + 1, [], _, _, _ => False
  | n + 1, o :: l, ρ, w, K => bif gOk ops ρ o.guard then xOp P T o ρ w (fun v w => xOpsN P T ops KP n l (ρ.put o.dst v) w K) KP else False
def xSegs (P : Program) (T : Tab) (ops : List Oper) (KP : List PanicEntry → World → Prop) : Sg → List Oper → Env → World → (Env → World → Prop) → Prop
  | .done, [], ρ, w, K => K ρ w
  | .done, _ :: _, _, _, _ => False
  | .ops n s, l, ρ, w, K => xOpsN P T ops KP n l ρ w fun l ρ w => xSegs P T ops KP s l ρ w K
  | .grp n inner s, l, ρ, w, K => match l.drop n with
    | [] => False
    | pk :: l' => need (grpHead ops (l.take n) pk) fun h => need (boolOf (ρ h.1)) fun f =>
        bif gOk ops (ρ.del (dsts (l.take n))) pk.guard then
          ∀ kb : Bool → World → Prop, (∀ b w, xSegs P T ops KP s l' ((ρ.del (dsts (l.take n))).put pk.dst (.bool b)) w K → kb b w) →
            match h.2.1 with
            | true => if f = true then xSegs P T ops KP inner (l.take n) (ρ.set h.1 (.bool true)) w (fun ρ' w => need (boolOf (ρ' h.2.2)) fun b => kb b w) else kb false w
            | false => if f = true then kb true w else xSegs P T ops KP inner (l.take n) (ρ.set h.1 (.bool false)) w (fun ρ' w => need (boolOf (ρ' h.2.2)) fun b => kb b w)
        else False
  | .grpP n inner s, l, ρ, w, K => match l.drop n with
    | [] => False
    | pk :: l' => need (grpHead ops (l.take n) pk) fun h => need (boolOf (ρ h.1)) fun f =>
        need (xPure T ops inner (l.take n) (ρ.set h.1 (.bool h.2.1))) fun ρ' => need (boolOf (ρ' h.2.2)) fun b =>
        bif gOk ops (ρ.del (dsts (l.take n))) pk.guard then
          xSegs P T ops KP s l' ((ρ.del (dsts (l.take n))).put pk.dst (.bool (mix h.2.1 f b))) w K
        else False

/-! ### a region that draws its order -/
inductive Od
  | done
  | q (i : Nat) (r : Od)
  | skip (i : Nat) (r : Od)
  | e (i : Nat) (r : Od)
  | more (i : Nat) (r others : Od)
  | br (d : Nat) (r1 r2 : Od)
  | p (i : Nat) (r : Od)
  | z (i : Nat)
def Od.heads : Od → List Nat
  | .more i _ o => i :: Od.heads o
  | .e i _ => [i]
  | _ => []
def Od.len : Od → Nat
  | .done => 0
  | .q _ r => Od.len r + 1
  | .skip _ r => Od.len r + 1
  | .e _ r => Od.len r + 1
  | .more _ r o => max (Od.len r + 1) (Od.len o)
  | .br _ a b => max (Od.len a) (Od.len b)
  | .p _ r => Od.len r + 1
  | .z _ => 1
def eqL : List Nat → List Nat → Bool
  | [], [] => true
  | x :: r, y :: s => Nat.beq x y && eqL r s
  | _, _ => false
def isNil : List Nat → Bool
  | [] => true
  | _ => false
def memN (x : Nat) : List Nat → Bool
  | [] => false
  | y :: r => Nat.beq x y || memN x r
def depsL : List Edge → List Nat
  | [] => []
  | e :: r => bif Region.binds .any e then e.on :: depsL r else depsL r
/-- what is bound to run ahead of those of the list, and they -/
def anc (ops : List Oper) : Nat → List Nat → List Nat → List Nat
  | 0, _, seen => seen
  | _ + 1, [], seen => seen
  | f + 1, x :: todo, seen => bif memN x seen then anc ops f todo seen else
    match nth ops x with
    | none => anc ops f todo seen
    | some o => anc ops f (depsL o.after.toList ++ todo) (x :: seen)
def allN (p : Nat → Bool) : Nat → Bool
  | 0 => true
  | n + 1 => p n && allN p n
/-- such an operation acts on nothing -/
def pureOrQuiet (o : Oper) : Bool := match o.op with
  | .move _ | .assign _ | .extract _ _ | .fieldAddr _ _ _ | .nilCheck _ | .indexAddr _ _ _ => true
  | _ => false
/-- what a quiet operation yields does not hang on the world -/
def wfree (o : Oper) : Bool := match o.op with | .load _ _ => false | _ => true
/-- operation i is bound before, or behind, each other one that looks at the world -/
def pivot (ops : Array Oper) (i : Nat) : Bool :=
  match nth ops.toList i with
  | none => false
  | some o => match anc ops.toList 3000 (depsL o.after.toList) [] with
    | as => allN (fun k => Nat.beq k i || memN k as || (match nth ops.toList k with | some x => memN i (depsL x.after.toList) || (wfree x && pureOrQuiet x) | none => false)) ops.size
def odOk (ops : Array Oper) : Bool → Od → Array Bool → Bool
  | _, .done, l => isNil (Region.ready .any ops l)
  | _, .q i r, l => Region.free .any ops l i && (Region.ready .any ops l).contains i && odOk ops true r (l.setIfInBounds i true)
  | _, .skip i r, l => Region.free .any ops l i && (Region.ready .any ops l).contains i && odOk ops true r (l.setIfInBounds i true)
  | top, .e i r, l => (!top || eqL (Region.ready .any ops l) [i]) && odOk ops true r (l.setIfInBounds i true)
  | top, .more i r o, l => (!top || eqL (Region.ready .any ops l) (i :: o.heads)) && odOk ops true r (l.setIfInBounds i true) && odOk ops false o l
  | _, .br _ r1 r2, l => odOk ops true r1 l && odOk ops true r2 l
  | _, .p i r, l => eqL (Region.ready .any ops l) [i] && pivot ops i && odOk ops true r (l.setIfInBounds i true)
  | _, .z i, l => eqL (Region.ready .any ops l) [i] && pivot ops i && isNil (Region.ready .any ops (l.setIfInBounds i true))
def xQ (T : Tab) (S : World → Prop) (o : Oper) (ρ : Env) (K : Value → Prop) : Prop :=
  match pureOp T o.op ρ with
  | some v => K v
  | none => match o.op with
    | .nilCheck x => need (ev ρ x) fun v => match v with
      | .pointer a => xptr a fun p => K (.pointer (some p))
      | _ => False
    | .load t x => need (ev ρ x) fun v => match v with
      | .pointer a => xptr a fun p => match T.kd t with
        | some (.sc s) => s.ex fun u => (∀ w, S w → w.cell? p = some u) ∧ K u
        | some (.agg ks) => Scs.ex ks fun vs => (∀ w, S w → cellsAt w p 0 vs) ∧ K (.agg vs.toArray)
        | none => False
      | _ => False
    | .fieldAddr t x f => need (ev ρ x) fun v => match v, T.ty t with
      | .pointer a, .struct fs _ => xptr a fun p => need (nth fs f) fun i => K (.pointer (some (p.add i.off)))
      | _, _ => False
    | .indexAddr t x y => need (ev ρ x) fun v => need (ev ρ y) fun u => match v, T.ty t, u with
      | .slice a l _, .slc _ sz, .int _ n => xptr a fun p => 0 ≤ n ∧ n < l ∧ K (.pointer (some (p.add (n.toNat * sz))))
      | .pointer a, .arr l _ sz _, .int _ n => xptr a fun p => 0 ≤ n ∧ n < l ∧ K (.pointer (some (p.add (n.toNat * sz))))
      | _, _, _ => False
    | .slice t x lo hi mx => need (ev ρ x) fun v => need (evO ρ lo) fun lo => need (evO ρ hi) fun hi => need (evO ρ mx) fun mx => match v, T.ty t with
      | .slice a l c, .slc _ sz => need (intO lo) fun lo => need (intO hi) fun hi => need (intO mx) fun mx => sliceK sz a l c lo hi mx fun a l c => K (.slice a l c)
      | _, _ => False
    | .build t parts => need (evP ρ parts.toList) fun ps => need (buildV (T.ty t) ps) fun v => K v
    | .binOp op _ x y _ => need (ev ρ x) fun v => need (ev ρ y) fun u => match v, u with
      | .int k a, .int k' b => match op with
        | .quo => bif decide (k = k') then b ≠ 0 ∧ K (.int k (k.wrap (a.tdiv b))) else False
        | .rem => bif decide (k = k') then b ≠ 0 ∧ K (.int k (a.tmod b)) else False
        | .shl => 0 ≤ b ∧ K (.int k (shiftI .shl k a b))
        | .shr => 0 ≤ b ∧ K (.int k (shiftI .shr k a b))
        | _ => False
      | _, _ => False
    | .call { callee := .builtin b, args, .. } => need (evs ρ args.toList) fun vs => match b with
      | .max => need (maxV .max vs) K
      | .min => need (maxV .min vs) K
      | _ => False
    | .index t x y => need (ev ρ x) fun v => need (ev ρ y) fun u => match v, T.ty t, u with
      | .string s, .str, .int _ n => 0 ≤ n ∧ ∃ b : UInt8, s[n.toNat]? = some b ∧ K (.int .u8 b.toNat)
      | _, _, _ => False
    | _ => False
def gNot (ops : List Oper) (ρ : Env) (g : Option (Nat × Bool)) : Bool :=
  match g with
  | none => false
  | some (j, want) => match dstAt ops j with
    | some d => match ρ d with
      | some (.bool b) => b != want
      | some (.tuple _) => true
      | _ => false
    | none => false
def xOrd (P : Program) (T : Tab) (ops : List Oper) (KP : List PanicEntry → World → Prop) : (World → Prop) → Od → Env → World → (Env → World → Prop) → Prop
  | _, .done, ρ, w, K => K ρ w
  | S, .q i r, ρ, w, K => need (nth ops i) fun o => bif gOk ops ρ o.guard then xQ T S o ρ (fun v => xOrd P T ops KP S r (ρ.put o.dst v) w K) else False
  | S, .skip i r, ρ, w, K => need (nth ops i) fun o => bif gNot ops ρ o.guard then xOrd P T ops KP S r (ρ.put o.dst undef) w K else False
  | S, .e i r, ρ, w, K => need (nth ops i) fun o => bif gOk ops ρ o.guard then xOp P T o ρ w (fun v w => S w ∧ xOrd P T ops KP S r (ρ.put o.dst v) w K) KP else False
  | S, .more i r o', ρ, w, K => (need (nth ops i) fun o => bif gOk ops ρ o.guard then xOp P T o ρ w (fun v w => S w ∧ xOrd P T ops KP S r (ρ.put o.dst v) w K) KP else False) ∧ xOrd P T ops KP S o' ρ w K
  | S, .br d r1 r2, ρ, w, K => need (boolOf (ρ d)) fun f => if f = true then xOrd P T ops KP S r1 (ρ.set d (.bool true)) w K else xOrd P T ops KP S r2 (ρ.set d (.bool false)) w K
  | _, .p i r, ρ, w, K => need (nth ops i) fun o => bif gOk ops ρ o.guard then xOp P T o ρ w (fun v w => ∃ S : World → Prop, S w ∧ xOrd P T ops KP S r (ρ.put o.dst v) w K) KP else False
  | _, .z i, ρ, w, K => need (nth ops i) fun o => bif gOk ops ρ o.guard then xOp P T o ρ w (fun v w => K (ρ.put o.dst v) w) KP else False
def noDefer : List Oper → Bool
  | [] => true
  | o :: r => (match o.op with | .defer _ => false | _ => true) && noDefer r
def xDraw (P : Program) (T : Tab) (ops : Array Oper) (KP : List PanicEntry → World → Prop) (od : Od) (ρ : Env) (w : World) (K : Env → World → Prop) : Prop :=
  bif Region.noSelect ops && noDefer ops.toList && odOk ops true od (Array.replicate ops.size false) && Nat.ble od.len ops.size then
    ∃ S : World → Prop, S w.drew ∧ xOrd P T ops.toList KP S od ρ w.drew K
  else False

/-! ### a region whose operations act in any order that the edges allow: an invariant over what has been yielded -/
def anyL (p : Nat → Bool) : List Nat → Bool
  | [] => false
  | x :: r => p x || anyL p r
def allL (p : Nat → Bool) : List Nat → Bool
  | [] => true
  | x :: r => p x && allL p r
def nodupN : List Nat → Bool
  | [] => true
  | x :: r => !memN x r && nodupN r
/-- who acts (and yields what none knows), who is quiet and hangs on nobody who acts, who is bound ahead of whom -/
structure RI where
  E : List Nat
  pre : List Nat
  as : List (List Nat)
  use : List (List Nat)
def lookL (as : List (List Nat)) (j : Nat) : List Nat :=
  match nth as j with
  | some l => l
  | none => []
def ancOk (ops : List Oper) (as : List (List Nat)) : Bool :=
  allN (fun j => match nth ops j with
    | none => true
    | some o => allL (fun m => Nat.blt m j) (depsL o.after.toList) &&
      allL (fun k => Nat.blt k j && (memN k (depsL o.after.toList) || anyL (fun m => Nat.blt m j && memN k (lookL as m)) (depsL o.after.toList))) (lookL as j)) ops.length
def noGuards : List Oper → Bool
  | [] => true
  | o :: r => (match o.guard with | none => true | some _ => false) && noGuards r
def keepE (ρ0 : Env) (us : List Nat) (ρ : Env) : Env := fun t => bif memb t us then ρ t else ρ0 t
def writes (ops : List Oper) (t k : Nat) : Bool :=
  match nth ops k with
  | some o => match o.dst with
    | some d => Nat.beq d t
    | none => false
  | none => false
def useOk (ops : List Oper) (R : RI) : Bool := allN (fun i => allL (fun t => anyL (writes ops t) (lookL R.as i)) (lookL R.use i)) ops.length
def sortedN : List Nat → Bool
  | x :: y :: r => Nat.blt x y && sortedN (y :: r)
  | _ => true
def posOf (n : Nat) : Nat → List Nat → Option Nat
  | _, [] => none
  | m, x :: r => bif Nat.beq n x then some m else posOf n (m + 1) r
def nthO (x : List (Option Value)) (m : Nat) : Option Value :=
  match nth x m with
  | some v => v
  | none => none
def setN (v : Option Value) : List (Option Value) → Nat → List (Option Value)
  | [], _ => []
  | _ :: r, 0 => v :: r
  | y :: r, m + 1 => y :: setN v r m
def pureOp2 (T : Tab) (o : Op) (ρ : Env) : Option Value :=
  match pureOp T o ρ with
  | some v => some v
  | none => match o with
    | .build t parts => match evP ρ parts.toList with
      | some ps => buildV (T.ty t) ps
      | none => none
    | _ => none
def Env.setO (ρ : Env) (d : Option Nat) (v : Option Value) : Env :=
  match d with
  | some d => fun t => bif Nat.beq t d then v else ρ t
  | none => ρ
def valI (T : Tab) (R : RI) (ρ0 ρ1 : Env) (x : List (Option Value)) (n : Nat) (o : Oper) (ρ : Env) : Option Value :=
  match posOf n 0 R.E with
  | some m => nthO x m
  | none => bif memN n R.pre then (match o.dst with | some d => ρ1 d | none => none) else pureOp2 T o.op (keepE ρ0 (lookL R.use n) ρ)
def envI (T : Tab) (ops : List Oper) (R : RI) (ρ0 ρ1 : Env) (x : List (Option Value)) : Nat → Env
  | 0 => ρ0
  | n + 1 => match nth ops n with
    | none => envI T ops R ρ0 ρ1 x n
    | some o => (envI T ops R ρ0 ρ1 x n).setO o.dst (valI T R ρ0 ρ1 x n o (envI T ops R ρ0 ρ1 x n))
/-- the same, for the kernel: the lists are walked side by side -/
def envL (T : Tab) (use : List (List Nat)) (ρ0 ρ1 : Env) : List Oper → Nat → List Nat → List (Option Value) → List Nat → Env → Env
  | [], _, _, _, _, ρ => ρ
  | o :: r, j, E, x, pre, ρ =>
    bif (match E with | e :: _ => Nat.beq e j | [] => false) then
      envL T use ρ0 ρ1 r (j + 1) E.tail x.tail pre (ρ.setO o.dst (match x with | v :: _ => v | [] => none))
    else bif (match pre with | e :: _ => Nat.beq e j | [] => false) then
      envL T use ρ0 ρ1 r (j + 1) E x pre.tail (ρ.setO o.dst (match o.dst with | some d => ρ1 d | none => none))
    else envL T use ρ0 ρ1 r (j + 1) E x pre (ρ.setO o.dst (pureOp2 T o.op (keepE ρ0 (lookL use j) ρ)))
def Sc.isB : Sc → Value → Bool
  | .bool, .bool _ => true
  | .int k, .int k' _ => decide (k = k')
  | .str, .string _ => true
  | .ptr, .pointer _ => true
  | .slc, .slice _ _ _ => true
  | .map, .map _ => true
  | .fn, _ => true
  | .iface, _ => true
  | .other, _ => true
  | _, _ => false
def Scs.isB : List Sc → List Value → Bool
  | [], [] => true
  | s :: r, v :: vs => s.isB v && Scs.isB r vs
  | _, _ => false
def Kd.isB : Kd → Value → Bool
  | .sc s, v => s.isB v
  | .agg ks, .agg cs => Scs.isB ks cs.toList
  | _, _ => false
def Kds.isB : List Kd → List Value → Bool
  | [], [] => true
  | s :: r, v :: vs => s.isB v && Kds.isB r vs
  | _, _ => false
def isTB (ti : TI) (v : Value) : Bool :=
  match ti with
  | .tup ks => match v with
    | .tuple vs => Kds.isB ks vs.toList
    | _ => false
  | ti => match ti.kd with
    | some k => k.isB v
    | none => true
def opTI (T : Tab) (o : Oper) : TI :=
  match o.op with
  | .alloc _ => .ptr
  | .box _ _ => .ptr
  | .fieldAddr _ _ _ => .ptr
  | .indexAddr _ _ _ => .ptr
  | .nilCheck _ => .none
  | _ => T.ty o.type
def isTO (T : Tab) (o : Oper) (v : Value) : Bool :=
  match o.dst with
  | none => true
  | some _ => isTB (opTI T o) v
def Kd.allV : Kd → (Value → Prop) → Prop
  | .sc s, p => s.all p
  | .agg ks, p => Kall ks fun vs => p (.agg vs.toArray)
def Kds.allV : List Kd → (List Value → Prop) → Prop
  | [], p => p []
  | s :: r, p => s.allV fun v => Kds.allV r fun vs => p (v :: vs)
def allT (ti : TI) (k : Value → Prop) : Prop :=
  match ti with
  | .tup ks => Kds.allV ks fun vs => k (.tuple vs.toArray)
  | ti => match ti.kd with
    | some kd => kd.allV k
    | none => ∀ v, k v
def opAll (T : Tab) (ops : List Oper) (e : Nat) (k : Value → Prop) : Prop :=
  match nth ops e with
  | none => ∀ v, k v
  | some o => match o.dst with
    | none => ∀ v, k v
    | some _ => allT (opTI T o) k
def oblI (T : Tab) (ops : List Oper) (R : RI) (i : Nat) : List Nat → (List (Option Value) → Prop) → Prop
  | [], p => p []
  | e :: r, p => bif memN e (lookL R.as i) then opAll T ops e fun v => oblI T ops R i r fun x => p (some v :: x)
    else bif Nat.beq e i || memN i (lookL R.as e) then oblI T ops R i r fun x => p (none :: x)
    else ∀ o : Option Value, oblI T ops R i r fun x => p (o :: x)
def finI (T : Tab) (ops : List Oper) : List Nat → (List (Option Value) → Prop) → Prop
  | [], p => p []
  | e :: r, p => opAll T ops e fun v => finI T ops r fun x => p (some v :: x)
def xPreI (T : Tab) (ops : List Oper) (S : World → Prop) (R : RI) (ρ0 : Env) : List Nat → Env → (Env → Prop) → Prop
  | [], ρ, K => K ρ
  | i :: r, ρ, K => need (nth ops i) fun o => xQ T S o (keepE ρ0 (lookL R.use i) ρ) fun v => xPreI T ops S R ρ0 r (ρ.put o.dst v) K
def okO {α : Type} : Option α → Prop
  | some _ => True
  | none => False
def oneI (P : Program) (T : Tab) (ops : List Oper) (KP : List PanicEntry → World → Prop) (R : RI) (ρ0 ρ1 : Env) (J : List (Option Value) → World → Prop) (i : Nat) : Prop :=
  need (nth ops i) fun o => match posOf i 0 R.E with
    | some m => oblI T ops R i R.E fun x => ∀ w, J x w → xOp P T o (keepE ρ0 (lookL R.use i) (envL T R.use ρ0 ρ1 ops 0 R.E x R.pre ρ0)) w (fun v w' => bif isTO T o v then J (setN (some v) x m) w' else False) KP
    | none => oblI T ops R i R.E fun x => okO (pureOp2 T o.op (keepE ρ0 (lookL R.use i) (envL T R.use ρ0 ρ1 ops 0 R.E x R.pre ρ0)))
def eachI (P : Program) (T : Tab) (ops : List Oper) (KP : List PanicEntry → World → Prop) (R : RI) (ρ0 ρ1 : Env) (J : List (Option Value) → World → Prop) (fin : Prop) : List Nat → Prop
  | [] => fin
  | i :: r => bif memN i R.pre then eachI P T ops KP R ρ0 ρ1 J fin r else oneI P T ops KP R ρ0 ρ1 J i ∧ eachI P T ops KP R ρ0 ρ1 J fin r
def upTo : Nat → Nat → List Nat
  | 0, _ => []
  | n + 1, i => i :: upTo n (i + 1)
def nones : List Nat → List (Option Value)
  | [] => []
  | _ :: r => none :: nones r
def xInvR (P : Program) (T : Tab) (ops : Array Oper) (KP : List PanicEntry → World → Prop) (R : RI) (ρ : Env) (w : World) (K : Env → World → Prop) : Prop :=
  bif Region.noSelect ops && noDefer ops.toList && noGuards ops.toList && ancOk ops.toList R.as && useOk ops.toList R && sortedN R.E && sortedN R.pre && nodupN (dsts ops.toList) && nodupN R.E && nodupN R.pre && allL (fun i => Nat.blt i ops.toList.length) R.E && allL (fun i => !memN i R.E) R.pre then
    ∃ S : World → Prop, S w.drew ∧ xPreI T ops.toList S R (ρ.del (dsts ops.toList)) R.pre (ρ.del (dsts ops.toList)) fun ρ1 => ∃ J : List (Option Value) → World → Prop, (∀ x w, J x w → S w) ∧ J (nones R.E) w.drew ∧
      eachI P T ops.toList KP R (ρ.del (dsts ops.toList)) ρ1 J (finI T ops.toList R.E fun x => ∀ w, J x w → K (envL T R.use (ρ.del (dsts ops.toList)) ρ1 ops.toList 0 R.E x R.pre (ρ.del (dsts ops.toList))) w) (upTo ops.toList.length 0)
  else False

/-! ### code -/
structure XQ where
  normal : Env → World → Prop
  exit : Nat → Env → World → Prop
  ret : Env → World → Prop
  panic : List PanicEntry → World → Prop
abbrev Outs := List (Nat × Sc)
def Outs.ks : Outs → List Sc
  | [] => []
  | x :: r => x.2 :: Outs.ks r
def Outs.vals (ρ : Env) : Outs → Option (List Value)
  | [] => some []
  | x :: r => match ρ x.1, Outs.vals ρ r with
    | some v, some vs => some (v :: vs)
    | _, _ => none
def Outs.put (ρ : Env) : Outs → List Value → Env
  | x :: r, v :: vs => (Outs.put ρ r vs).set x.1 v
  | _, _ => ρ
inductive An
  | leaf
  | rg (s : Sg)
  | rgD (od : Od)
  | rgDJ (outs : Outs) (od : Od)
  | rgI (R : RI)
  | rgIJ (outs : Outs) (R : RI)
  | scp (a : An)
  | seq (a b : An)
  | seqJ (outs : Outs) (a b : An)
  | cond (a b : An)
  | blk (a : An)
  | blkJ (outs : Outs) (a : An)
  | loop (outs : Outs) (a : An)
  | range (ks : List Kd) (es : List Nat) (hr : Bool) (x y : An)
def wr : Code → List Nat
  | .region _ ops _ => dsts ops.toList
  | .seq a b => wr a ++ wr b
  | .cond _ a b => wr a ++ wr b
  | .block _ a => wr a
  | .loop a => wr a
  | .scope a => wr a
  | .rangeFunc _ ps a b => ps.toList ++ (wr a ++ wr b)
  | _ => []
def kbAt (outs : Outs) (kb : KFun outs.ks) (ρ : Env) (w : World) : Prop :=
  need (outs.vals ρ) fun vs => need (KFun.ap outs.ks kb vs) fun p => p w
def jn (outs : Outs) (W : List Nat) (ρ : Env) (K : Env → World → Prop) (B : (Env → World → Prop) → Prop) : Prop :=
  ∀ kb : KFun outs.ks, Kall outs.ks (fun vs => ∀ w, K (outs.put (ρ.del W) vs) w → need (KFun.ap outs.ks kb vs) fun p => p w) → B (kbAt outs kb)
/-- the record of a loop over a function, as a round finds it -/
def LoopIs (w : World) (l : Nat) (r : Loop) : Prop := w.heap[l]? = some (.loop r)
def setLoop (w : World) (l : Nat) (r : Loop) : World := { w with heap := w.heap.setIfInBounds l (.loop r) }
def orE : List Nat → (Nat → Prop) → Prop
  | [], _ => False
  | i :: r, p => p i ∨ orE r p
def Kd.all : Kd → (Value → Prop) → Prop
  | .sc s, p => s.all p
  | .agg ks, p => Kall ks fun vs => p (.agg vs.toArray)
def Kds.all : List Kd → (List Value → Prop) → Prop
  | [], p => p []
  | s :: r, p => s.all fun v => Kds.all r fun vs => p (v :: vs)
/-- behind the loop: what was left pending is carried out -/
def jumpOf (Q : XQ) (ρ : Env) (w : World) (l : Nat) (r : Loop) (es : List Nat) (hr : Bool) : Prop :=
  (∃ st, LoopIs w l { r with state := st, pending := none } ∧ st ≠ .busy ∧ Q.normal ρ (setLoop w l { r with state := .exhausted, pending := none })) ∨
  (bif hr then ∃ st, LoopIs w l { r with state := st, pending := some .ret } ∧ st ≠ .busy ∧ Q.ret ρ (setLoop w l { r with state := .exhausted, pending := some .ret }) else False) ∨
  orE es fun i => ∃ st, LoopIs w l { r with state := st, pending := some (.exit i) } ∧ st ≠ .busy ∧ Q.exit i ρ (setLoop w l { r with state := .exhausted, pending := some (.exit i) })
def putAll (ρ : Env) : List Nat → List Value → Option Env
  | [], [] => some ρ
  | t :: r, v :: vs => putAll (ρ.set t v) r vs
  | _, _ => none
def rngs : Code → Bool
  | .rangeFunc .. => true
  | .seq a b => rngs a || rngs b
  | .cond _ a b => rngs a || rngs b
  | .block _ a => rngs a
  | .loop a => rngs a
  | .scope a => rngs a
  | _ => false
/-- a range over a function: its two new blocks; the rule for a round; the call -/
def xRange (P : Program) (ρ : Env) (w : World) (Q : XQ) (g : Operand) (ps : List Nat) (ks : List Kd) (es : List Nat) (hr : Bool) (round : Env → World → Nat → Loop → XQ → Prop) : Prop :=
  need (ev ρ g) fun gv => ∀ (l : Nat) (r : Loop), l = w.heap.size + 1 → r.state = .ready → r.pending = none →
    (Kds.all ks fun args => ∀ (W : World) (K : Value → World → Prop), LoopIs W l r → (need (putAll ρ ps args) fun ρ' => round ρ' W l r
        { normal := fun _ W' => LoopIs W' l { r with state := .busy } ∧ K (.bool true) (setLoop W' l r)
          exit := fun i _ W' => LoopIs W' l { r with state := .busy } ∧ K (.bool false) (setLoop W' l { r with state := .done, pending := some (.exit i) })
          ret := fun _ W' => LoopIs W' l { r with state := .busy } ∧ K (.bool false) (setLoop W' l { r with state := .done, pending := some .ret })
          panic := fun _ _ => False }) → XYield P l args W K NP) →
    XCF P gv [.func (.yield l) #[] #[]] ((w.alloc (.deferred (some []))).alloc (.loop r)) (fun _ w3 => jumpOf Q ρ w3 l r es hr) Q.panic
def xw (P : Program) (T : Tab) : An → Code → Env → World → XQ → Prop
  | .leaf, .skip, ρ, w, Q => Q.normal ρ w
  | .leaf, .label _, ρ, w, Q => Q.normal ρ w
  | .leaf, .exit i, ρ, w, Q => Q.exit i ρ w
  | .leaf, .ret, ρ, w, Q => Q.ret ρ w
  | .rg s, .region _ ops false, ρ, w, Q => xSegs P T ops.toList Q.panic s ops.toList ρ w Q.normal
  | .rgD od, .region _ ops true, ρ, w, Q => xDraw P T ops Q.panic od ρ w Q.normal
  | .rgDJ outs od, .region _ ops true, ρ, w, Q => jn outs (dsts ops.toList) ρ Q.normal fun kb => xDraw P T ops Q.panic od ρ w kb
  | .rgI R, .region _ ops true, ρ, w, Q => xInvR P T ops Q.panic R ρ w Q.normal
  | .rgIJ outs R, .region _ ops true, ρ, w, Q => jn outs (dsts ops.toList) ρ Q.normal fun kb => xInvR P T ops Q.panic R ρ w kb
  | .scp x, .scope c, ρ, w, Q => xw P T x c ρ w Q
  | .seq x y, .seq c d, ρ, w, Q => xw P T x c ρ w { Q with normal := fun ρ w => xw P T y d ρ w Q }
  | .seqJ outs x y, .seq c d, ρ, w, Q => jn outs (wr c) ρ (fun ρ w => xw P T y d ρ w Q) fun kb => xw P T x c ρ w { Q with normal := kb }
  | .cond x y, .cond c d e, ρ, w, Q => need (boolOf (ev ρ c)) fun b => if b = true then xw P T x d ρ w Q else xw P T y e ρ w Q
  | .blk x, .block id c, ρ, w, Q => xw P T x c ρ w { Q with exit := fun i ρ w => bif Nat.beq i id then Q.normal ρ w else Q.exit i ρ w }
  | .blkJ outs x, .block id c, ρ, w, Q => jn outs (wr c) ρ Q.normal fun kb =>
      xw P T x c ρ w { Q with normal := kb, exit := fun i ρ w => bif Nat.beq i id then kb ρ w else Q.exit i ρ w }
  | .loop outs x, .loop c, ρ, w, Q => ∃ (I : KFun outs.ks) (μ : KNat outs.ks), kbAt outs I ρ w ∧
      Kall outs.ks fun vs => ∀ w, (need (KFun.ap outs.ks I vs) fun p => p w) →
        xw P T x c (outs.put (ρ.del (wr c)) vs) w { Q with normal := fun ρ' w' => need (outs.vals ρ') fun vs' =>
          (need (KFun.ap outs.ks I vs') fun p => p w') ∧ need (KNat.ap outs.ks μ vs') fun m' => need (KNat.ap outs.ks μ vs) fun m => m' w' < m w }
  | .range ks es hr x y, .rangeFunc g ps c d, ρ, w, Q => xRange P ρ w Q g ps.toList ks es hr fun ρ' W l r Q' =>
      xw P T x c ρ' W { normal := fun ρ1 W1 => LoopIs W1 l r ∧ xw P T y d ρ1 (setLoop W1 l { r with state := .busy }) Q', exit := fun _ _ _ => False, ret := fun _ _ => False, panic := fun _ _ => False }
  | _, _, _, _, _ => False
/-- all written slots lie in the frame -/
def lts (n : Nat) : List Nat → Bool
  | [] => true
  | d :: r => Nat.blt d n && lts n r
def xres (T : Tab) : List ResultVar → Env → World → List Value → (Value → World → Prop) → Prop
  | [], _, w, [v], K => K v w
  | [], _, w, vs, K => K (.tuple vs.toArray) w
  | .tmp t :: r, ρ, w, vs, K => need (ρ t) fun v => xres T r ρ w (vs ++ [v]) K
  | .cell t ty :: r, ρ, w, vs, K => need (ρ t) fun v => match v with
    | .pointer a => xptr a fun p => match T.kd ty with
      | some (.sc s) => s.ex fun u => w.cell? p = some u ∧ xres T r ρ w (vs ++ [u]) K
      | some (.agg ks) => Scs.ex ks fun us => cellsAt w p 0 us ∧ xres T r ρ w (vs ++ [.agg us.toArray]) K
      | none => False
    | _ => False
/-- no range over a function stands within another one's body -/
def flat : Bool → Code → Bool
  | top, .rangeFunc _ _ a b => top && flat false a && flat false b
  | top, .seq a b => flat top a && flat top b
  | top, .cond _ a b => flat top a && flat top b
  | top, .block _ a => flat top a
  | top, .loop a => flat top a
  | top, .scope a => flat top a
  | _, _ => true
def outK (c : Code) (w : World) (K : World → Prop) (w' : World) : Prop :=
  bif rngs c then ∀ w2, ShutD w.heap.size w' w2 → K w2 else K w'
def xfn (P : Program) (T : Tab) (an : An) (fn : Func) (args : List Value) (w : World) (K : Value → World → Prop) (KP : List PanicEntry → World → Prop) : Prop :=
  match fn.body with
  | none => False
  | some c => xw P T an c (env0 args) w
    { normal := fun ρ w' => outK c w (fun w2 => xres T fn.results.toList ρ w2 [] K) w'
      ret := fun ρ w' => outK c w (fun w2 => xres T fn.results.toList ρ w2 [] K) w'
      exit := fun _ _ _ => False, panic := fun ch w' => outK c w (KP ch) w' }
def fits (fn : Func) (n : Nat) : Bool :=
  match fn.body with
  | none => false
  | some c => lts fn.ntmps (wr c) && flat true c && Nat.ble n fn.ntmps && !(fn.name == "runtime.NumGoroutine")
end Go.X
