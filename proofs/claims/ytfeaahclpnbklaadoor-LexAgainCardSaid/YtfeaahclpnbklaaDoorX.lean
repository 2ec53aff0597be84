/- A reflective weakest precondition over the model's code: 'xw' computes, from a function's code and a small annotation, a formula in typed variables; 'xfunc' proves it sound. No program is named here. -/
import Derived.WalkKit
namespace Go.X

abbrev Env := Nat → Option Value
def Env.set (ρ : Env) (d : Nat) (v : Value) : Env := fun t => bif Nat.beq t d then some v else ρ t
def Env.put (ρ : Env) (d : Option Nat) (v : Value) : Env :=
  match d with
  | some d => ρ.set d v
  | none => ρ
def memb (t : Nat) : List Nat → Bool
  | [] => false
  | x :: r => bif Nat.beq t x then true else memb t r
def Env.del (ρ : Env) (W : List Nat) : Env := fun t => bif memb t W then none else ρ t
def env0 (args : List Value) : Env := fun t => args[t]?

def ev (ρ : Env) : Operand → Option Value
  | .tmp t => ρ t
  | .const v => some v
  | .global g => some (.pointer (some ⟨g, 0, none⟩))
  | .func f => some (.func (.func f) #[] #[])
def evs (ρ : Env) : List Operand → Option (List Value)
  | [] => some []
  | x :: r => match ev ρ x, evs ρ r with
    | some v, some vs => some (v :: vs)
    | _, _ => none
def need {α : Type} (x : Option α) (k : α → Prop) : Prop :=
  match x with
  | some a => k a
  | none => False

inductive Sc | bool | int (k : IntKind) | str | ptr | slc | map | fn | iface | other
  deriving DecidableEq
inductive Kd | sc (s : Sc) | agg (ks : List Sc)
  deriving DecidableEq

def Sc.ex : Sc → (Value → Prop) → Prop
  | .bool, p => ∃ b : Bool, p (.bool b)
  | .int k, p => ∃ n : Int, p (.int k n)
  | .str, p => ∃ s : ByteArray, p (.string s)
  | .ptr, p => ∃ a : Option Addr, p (.pointer a)
  | .slc, p => ∃ (a : Option Addr) (l c : Nat), p (.slice a l c)
  | .map, p => ∃ r : Option Nat, p (.map r)
  | _, p => ∃ v : Value, p v
def Scs.ex : List Sc → (List Value → Prop) → Prop
  | [], p => p []
  | s :: r, p => s.ex fun v => Scs.ex r fun vs => p (v :: vs)
def Kd.ex : Kd → (Value → Prop) → Prop
  | .sc s, p => s.ex p
  | .agg ks, p => Scs.ex ks fun vs => p (.agg vs.toArray)
def Kds.ex : List Kd → (List Value → Prop) → Prop
  | [], p => p []
  | s :: r, p => s.ex fun v => Kds.ex r fun vs => p (v :: vs)

theorem Sc.ex_imp {s : Sc} {p : Value → Prop} (h : s.ex p) : ∃ v, p v := by
  cases s <;> simp only [Sc.ex] at h <;> first | (obtain ⟨x, h⟩ := h; exact ⟨_, h⟩) | (obtain ⟨x, y, z, h⟩ := h; exact ⟨_, h⟩)
theorem Scs.ex_imp {ks : List Sc} : ∀ {p : List Value → Prop}, Scs.ex ks p → ∃ v, p v := by
  induction ks with
  | nil => intro p h; exact ⟨_, h⟩
  | cons s r ih => intro p h; obtain ⟨v, h⟩ := Sc.ex_imp h; obtain ⟨vs, h⟩ := ih h; exact ⟨_, h⟩
theorem Kd.ex_imp {s : Kd} {p : Value → Prop} (h : s.ex p) : ∃ v, p v := by
  cases s with
  | sc s => exact Sc.ex_imp h
  | agg ks => obtain ⟨vs, h⟩ := Scs.ex_imp h; exact ⟨_, h⟩

/-- typed functions of so many values -/
def Sc.Fun : Sc → Type → Type
  | .bool, β => Bool → β
  | .int _, β => Int → β
  | .str, β => ByteArray → β
  | .ptr, β => Option Addr → β
  | .slc, β => Option Addr → Nat → Nat → β
  | .map, β => Option Nat → β
  | _, β => Value → β
def Sc.ap {β : Type} : (s : Sc) → s.Fun β → Value → Option β
  | .bool, f, .bool b => some (f b)
  | .int k, f, .int k' n => if k = k' then some (f n) else none
  | .str, f, .string s => some (f s)
  | .ptr, f, .pointer a => some (f a)
  | .slc, f, .slice a l c => some (f a l c)
  | .map, f, .map r => some (f r)
  | .fn, f, v => some (f v)
  | .iface, f, v => some (f v)
  | .other, f, v => some (f v)
  | _, _, _ => none
def Sc.mk {β : Type} : (s : Sc) → (Value → β) → s.Fun β
  | .bool, g => fun b => g (.bool b)
  | .int k, g => fun n => g (.int k n)
  | .str, g => fun s => g (.string s)
  | .ptr, g => fun a => g (.pointer a)
  | .slc, g => fun a l c => g (.slice a l c)
  | .map, g => fun r => g (.map r)
  | .fn, g => g
  | .iface, g => g
  | .other, g => g
def Sc.all : Sc → (Value → Prop) → Prop
  | .bool, p => ∀ b : Bool, p (.bool b)
  | .int k, p => ∀ n : Int, p (.int k n)
  | .str, p => ∀ s : ByteArray, p (.string s)
  | .ptr, p => ∀ a : Option Addr, p (.pointer a)
  | .slc, p => ∀ (a : Option Addr) (l c : Nat), p (.slice a l c)
  | .map, p => ∀ r : Option Nat, p (.map r)
  | _, p => ∀ v : Value, p v
theorem Sc.ap_mk {β γ : Type} {s : Sc} {f : s.Fun β} {v : Value} {x : β} (h : s.ap f v = some x) (g : Value → γ) : s.ap (s.mk g) v = some (g v) := by
  cases s <;> cases v <;> simp only [Sc.ap, Sc.mk] at * <;> first | rfl | (cases h; done) | skip
  split at h
  · rename_i e; subst e; simp
  · cases h
theorem Sc.all_ap {β : Type} {s : Sc} {f : s.Fun β} {v : Value} {x : β} (h : s.ap f v = some x) {p : Value → Prop} (hp : s.all p) : p v := by
  cases s <;> cases v <;> simp only [Sc.ap, Sc.all] at * <;> first | exact hp _ _ _ | (cases h; done) | (exact hp _; done) | skip
  split at h
  · rename_i e; subst e; exact hp _
  · cases h
/-- flat lists of kinds: what a join or a loop carries -/
def KFun : List Sc → Type
  | [] => World → Prop
  | s :: r => s.Fun (KFun r)
def KFun.ap : (ks : List Sc) → KFun ks → List Value → Option (World → Prop)
  | [], f, [] => some f
  | s :: r, f, v :: vs => match s.ap f v with
    | some g => KFun.ap r g vs
    | none => none
  | _, _, _ => none
def KFun.mk : (ks : List Sc) → (List Value → World → Prop) → KFun ks
  | [], g => g []
  | s :: r, g => s.mk fun v => KFun.mk r fun vs => g (v :: vs)
def KNat : List Sc → Type
  | [] => World → Nat
  | s :: r => s.Fun (KNat r)
def KNat.ap : (ks : List Sc) → KNat ks → List Value → Option (World → Nat)
  | [], f, [] => some f
  | s :: r, f, v :: vs => match s.ap f v with
    | some g => KNat.ap r g vs
    | none => none
  | _, _, _ => none
def Kall : List Sc → (List Value → Prop) → Prop
  | [], p => p []
  | s :: r, p => s.all fun v => Kall r fun vs => p (v :: vs)
theorem KFun.ap_mk : ∀ {ks : List Sc} {f : KFun ks} {vs : List Value} {x : World → Prop}, KFun.ap ks f vs = some x → ∀ g, KFun.ap ks (KFun.mk ks g) vs = some (g vs)
  | [], f, [], x, h, g => rfl
  | [], f, _ :: _, x, h, g => by cases h
  | s :: r, f, [], x, h, g => by cases h
  | s :: r, f, v :: vs, x, h, g => by
    simp only [KFun.ap] at h ⊢
    cases hs : s.ap f v with
    | none => rw [hs] at h; cases h
    | some y =>
      rw [hs] at h
      rw [KFun.mk, Sc.ap_mk hs]
      exact KFun.ap_mk h _
theorem Kall_ap : ∀ {ks : List Sc} {f : KFun ks} {vs : List Value} {x : World → Prop}, KFun.ap ks f vs = some x → ∀ {p : List Value → Prop}, Kall ks p → p vs
  | [], f, [], x, h, p, hp => hp
  | [], f, _ :: _, x, h, p, hp => by cases h
  | s :: r, f, [], x, h, p, hp => by cases h
  | s :: r, f, v :: vs, x, h, p, hp => by
    simp only [KFun.ap] at h
    cases hs : s.ap f v with
    | none => rw [hs] at h; cases h
    | some y =>
      rw [hs] at h
      exact Kall_ap h (Sc.all_ap hs hp)
theorem Kall_mk : ∀ {ks : List Sc} {p : List Value → Prop}, (∀ vs, p vs) → Kall ks p
  | [], p, h => h []
  | s :: r, p, h => by
    have : ∀ v, Kall r fun vs => p (v :: vs) := fun v => Kall_mk fun vs => h _
    cases s <;> simp only [Kall, Sc.all] <;> (intros; exact this _)

/-! ### types -/
structure FI where
  off : Nat
  kd : Kd
inductive TI
  | bool | int (k : IntKind) | str | ptr | func | map | iface
  | slc (elem size : Nat)
  | struct (fs : List FI) (ks : List Sc)
  | arr (len elem size : Nat) (ks : List Sc)
  | tup (ts : List Kd)
  | none
def TI.kd : TI → Option Kd
  | .bool => some (.sc .bool)
  | .int k => some (.sc (.int k))
  | .str => some (.sc .str)
  | .ptr => some (.sc .ptr)
  | .func => some (.sc .fn)
  | .map => some (.sc .map)
  | .iface => some (.sc .iface)
  | .slc .. => some (.sc .slc)
  | .struct _ ks => some (.agg ks)
  | .arr _ _ _ ks => some (.agg ks)
  | _ => Option.none
def nth {α : Type} : List α → Nat → Option α
  | [], _ => none
  | x :: _, 0 => some x
  | _ :: r, n + 1 => nth r n
abbrev Tab := List TI
def Tab.ty (T : Tab) (t : Nat) : TI := match nth T t with | some x => x | none => .none
def Tab.kd (T : Tab) (t : Nat) : Option Kd := (T.ty t).kd
def Kd.size : Kd → Nat
  | .sc _ => 1
  | .agg ks => ks.length
def Kd.isAgg : Kd → Bool
  | .sc _ => false
  | .agg _ => true
def Sc.zeroIs : Sc → Value → Bool
  | .bool, .bool b => !b
  | .int k, .int k' n => decide (k = k') && decide (n = 0)
  | .str, .string s => s.size == 0
  | .ptr, .pointer Option.none => true
  | .slc, .slice Option.none 0 0 => true
  | .map, .map Option.none => true
  | .fn, .nilFunc => true
  | .iface, .nilIface => true
  | _, _ => false
def Sc.zero : Sc → Value
  | .bool => .bool false
  | .int k => .int k 0
  | .str => .string ByteArray.empty
  | .ptr => .pointer none
  | .slc => .slice none 0 0
  | .map => .map none
  | .fn => .nilFunc
  | .iface => .nilIface
  | .other => .nilIface
def zerosAre : List Sc → List Value → Bool
  | [], [] => true
  | s :: r, v :: vs => s.zeroIs v && zerosAre r vs
  | _, _ => false
theorem Sc.zeroIs_eq {s : Sc} {v : Value} (h : s.zeroIs v = true) : v = s.zero := by
  cases s <;> cases v <;> simp [Sc.zeroIs, Sc.zero] at * <;> try (first | exact h | (obtain ⟨h1, h2⟩ := h; subst h1; subst h2; exact ⟨rfl, rfl⟩))
  case ptr.pointer a => cases a <;> simp at h ⊢
  case slc.slice a l c =>
    split at h <;> simp_all
  case map.map a => cases a <;> simp at h ⊢
theorem zerosAre_eq : ∀ {ks : List Sc} {vs : List Value}, zerosAre ks vs = true → vs = ks.map Sc.zero
  | [], [], _ => rfl
  | [], _ :: _, h => by cases h
  | _ :: _, [], h => by cases h
  | s :: r, v :: vs, h => by
    simp only [zerosAre, Bool.and_eq_true] at h
    rw [Sc.zeroIs_eq h.1, zerosAre_eq h.2]; rfl
def fieldsOk (P : Program) : List Field → List FI → Bool
  | [], [] => true
  | f :: fs, i :: is =>
    Nat.beq f.offset i.off && (match P.info? f.type, P.underlying f.type with
      | some j, some d => Nat.beq j.size i.kd.size && !(Nat.beq j.size 0) && (match d with
        | .struct _ | .array _ _ => i.kd.isAgg
        | _ => !i.kd.isAgg)
      | _, _ => false) && fieldsOk P fs is
  | _, _ => false
def zeroOk (i : TypeInfo) (ks : List Sc) : Bool :=
  match i.zero with
  | some v => zerosAre ks v.cells.toList
  | none => false
def TI.chk (P : Program) (t : Nat) : TI → Bool
  | .bool => match P.underlying t with | some .bool => true | _ => false
  | .int k => match P.underlying t with | some (.int k') => decide (k = k') | _ => false
  | .str => match P.underlying t with | some .string => true | _ => false
  | .ptr => match P.underlying t with | some (.pointer _) => true | _ => false
  | .func => match P.underlying t with | some (.func _ _ _) => true | _ => false
  | .map => match P.underlying t with | some (.map _ _) => true | _ => false
  | .iface => match P.underlying t with | some (.interface _) => true | _ => false
  | .slc e sz => match P.underlying t, P.info? e with | some (.slice e'), some i => Nat.beq e e' && Nat.beq i.size sz | _, _ => false
  | .struct fs ks => match P.underlying t, P.info? t with
    | some (.struct fields), some i => Nat.beq i.size ks.length && fieldsOk P fields.toList fs && zeroOk i ks
    | _, _ => false
  | .arr n e sz ks => match P.underlying t, P.info? t, P.info? e with
    | some (.array n' e'), some i, some j => Nat.beq n n' && Nat.beq e e' && Nat.beq i.size ks.length && Nat.beq j.size sz && zeroOk i ks
    | _, _, _ => false
  | .tup _ => true
  | .none => true
def Kd.scs : Kd → List Sc
  | .sc s => [s]
  | .agg ks => ks
def TI.sized (P : Program) (t : Nat) (x : TI) : Bool :=
  match x.kd with
  | some k => match P.info? t with
    | some i => Nat.beq i.size k.size && zeroOk i k.scs
    | Option.none => false
  | Option.none => true
def chkAll (P : Program) : Nat → Tab → Bool
  | _, [] => true
  | n, x :: r => (x.chk P n && x.sized P n) && chkAll P (n + 1) r
def TabOk (P : Program) (T : Tab) : Prop := ∀ t, ((T.ty t).chk P t && (T.ty t).sized P t) = true
theorem tabOk_of {P : Program} : ∀ (T : Tab) (n : Nat), chkAll P n T = true → ∀ t, ((T.ty t).chk P (n + t) && (T.ty t).sized P (n + t)) = true
  | [], n, _, t => by cases t <;> rfl
  | x :: r, n, h, 0 => by simp only [chkAll, Bool.and_eq_true] at h ⊢; exact h.1
  | x :: r, n, h, t + 1 => by
    rw [chkAll, Bool.and_eq_true] at h
    have := tabOk_of r (n + 1) h.2 t
    rw [show n + (t + 1) = n + 1 + t by omega]
    exact this
theorem tabOk {P : Program} {T : Tab} (h : chkAll P 0 T = true) : TabOk P T := fun t => by
  have := tabOk_of T 0 h t
  rwa [Nat.zero_add] at this

/-! ### pure operations -/
def bitsI (op : BinOp) (k : IntKind) (x y : Int) : Int :=
  match op with
  | .and => k.wrap (BitVec.ofInt k.bits x &&& BitVec.ofInt k.bits y).toNat
  | .or => k.wrap (BitVec.ofInt k.bits x ||| BitVec.ofInt k.bits y).toNat
  | .xor => k.wrap (BitVec.ofInt k.bits x ^^^ BitVec.ofInt k.bits y).toNat
  | _ => k.wrap (BitVec.ofInt k.bits x &&& ~~~(BitVec.ofInt k.bits y)).toNat
def binI (op : BinOp) (k : IntKind) (a b : Int) : Option Value :=
  match op with
  | .add => some (.int k (k.wrap (a + b)))
  | .sub => some (.int k (k.wrap (a - b)))
  | .mul => some (.int k (k.wrap (a * b)))
  | .and => some (.int k (bitsI .and k a b))
  | .or => some (.int k (bitsI .or k a b))
  | .xor => some (.int k (bitsI .xor k a b))
  | .andNot => some (.int k (bitsI .andNot k a b))
  | .eql => some (.bool (a == b))
  | .neq => some (.bool (a != b))
  | .lss => some (.bool (decide (a < b)))
  | .leq => some (.bool (decide (a ≤ b)))
  | .gtr => some (.bool (decide (a > b)))
  | .geq => some (.bool (decide (a ≥ b)))
  | _ => none
def eqV (op : BinOp) (b : Bool) : Option Value :=
  match op with
  | .eql => some (.bool b)
  | .neq => some (.bool (!b))
  | _ => none
def binV (T : Tab) (op : BinOp) (t : Nat) (x y : Value) : Option Value :=
  match x, y with
  | .int k a, .int k' b => if k = k' then binI op k a b else none
  | .bool a, .bool b => match T.ty t with
    | .bool => eqV op (a == b)
    | _ => none
  | .pointer a, .pointer none => match T.ty t with
    | .ptr => eqV op a.isNone
    | _ => none
  | .slice a _ _, .slice none _ _ => match T.ty t with
    | .slc _ _ => eqV op a.isNone
    | _ => none
  | .map a, .map none => match T.ty t with
    | .map => eqV op a.isNone
    | _ => none
  | .string a, .string b => eqV op (a.toList == b.toList)
  | _, _ => none
def unV (op : UnOp) (x : Value) : Option Value :=
  match op, x with
  | .neg, .int k n => some (.int k (k.wrap (0 - n)))
  | .xor, .int k n => some (.int k (bitsI .xor k (if k.signed then -1 else k.max) n))
  | .not, .bool b => some (.bool (!b))
  | _, _ => none
def pickB (f : Bool) (a b : Value) : Option Value :=
  match f with
  | true => some a
  | false => some b
def pickV (c a b : Value) : Option Value :=
  match c with
  | .bool f => match a, b with
    | .bool x, .bool y => some (.bool (bif f then x else y))
    | a, b => pickB f a b
  | _ => none
def convV (T : Tab) (s d : Nat) (x : Value) : Option Value :=
  match T.ty s, T.ty d, x with
  | .int _, .int k, .int _ n => some (.int k (k.wrap n))
  | _, _, _ => none
def lenV (T : Tab) (b : Builtin) (t : Nat) (x : Value) : Option Value :=
  match b, T.ty t, x with
  | .len, .str, .string s => some (.int .i64 s.size)
  | .len, .slc _ _, .slice _ n _ => some (.int .i64 n)
  | .cap, .slc _ _, .slice _ _ n => some (.int .i64 n)
  | .len, .arr n _ _ _, _ => some (.int .i64 n)
  | _, _, _ => none
def fieldV (T : Tab) (t f : Nat) (x : Value) : Option Value :=
  match T.ty t, x with
  | .struct fs _, .agg cs => match nth fs f with
    | some i => match i.kd with
      | .sc _ => cs.toList[i.off]?
      | .agg ks => some (.agg ((cs.toList.drop i.off).take ks.length).toArray)
    | none => none
  | _, _ => none
def max2V (b : Builtin) (x y : Value) : Option Value :=
  match b, x, y with
  | .max, .int k x, .int _ y => some (.int k (if y > x then y else x))
  | .min, .int k x, .int _ y => some (.int k (if y < x then y else x))
  | _, _, _ => none
def maxV (b : Builtin) : List Value → Option Value
  | [] => none
  | [x] => some x
  | x :: y :: r => match max2V b x y with
    | some z => maxV b (z :: r)
    | none => none
  termination_by l => l.length
def builtinV (T : Tab) (b : Builtin) (ts : List Nat) (vs : List Value) : Option Value :=
  match b, ts, vs with
  | .len, [t], [v] => lenV T .len t v
  | .cap, [t], [v] => lenV T .cap t v
  | _, _, _ => none
/-- two pointers held against one another -/
def ptrTmp : TI → Operand → Bool
  | .ptr, .tmp _ => true
  | .iface, _ => true
  | _, _ => false
def isIf : TI → Bool
  | .iface => true
  | _ => false
def pureOp (T : Tab) (o : Op) (ρ : Env) : Option Value :=
  match o with
  | .move x => ev ρ x
  | .assign x => ev ρ x
  | .pick c a b => match ev ρ c, ev ρ a, ev ρ b with
    | some c, some a, some b => pickV c a b
    | _, _, _ => none
  | .binOp op t x y _ => bif ptrTmp (T.ty t) y then none else match ev ρ x, ev ρ y with
    | some x, some y => binV T op t x y
    | _, _ => none
  | .unOp op _ x => match ev ρ x with
    | some x => unV op x
    | none => none
  | .extract t ix => match ev ρ t with
    | some (.tuple vs) => vs.toList[ix]?
    | _ => none
  | .convert s d x => match ev ρ x with
    | some x => convV T s d x
    | none => none
  | .makeFunc fn first cap => match evs ρ first.toList, evs ρ cap.toList with
    | some a, some b => some (.func fn a.toArray b.toArray)
    | _, _ => none
  | .field t x f => match ev ρ x with
    | some x => fieldV T t f x
    | none => none
  | .call { callee := .builtin b, args, argTypes } => match evs ρ args.toList with
    | some vs => builtinV T b argTypes.toList vs
    | none => none
  | _ => none
end Go.X
