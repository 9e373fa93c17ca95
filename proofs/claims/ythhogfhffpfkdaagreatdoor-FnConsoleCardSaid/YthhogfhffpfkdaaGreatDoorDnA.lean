/-
  The evaluator: Go functions over plain typed data, as a plain Lean function of the loaded code; its fixed point; data in memory.
-/
import GoSem.Dispatch
import Derived.Laws.AppendOwn
/-
  The evaluator: Go functions over plain typed data (numbers, texts, lists, pairs), as a plain Lean function of the loaded code.
  Nothing of a program stands here. What it tells is tied to the machine in the texts behind it.
-/
namespace Go.Den
open Go

/-! ### types and data -/
inductive Ty where
  | int (k : IntKind) | bool | str | unit | one (a : Ty) | cons (a b : Ty) | sl (e : Ty)
  deriving DecidableEq, Inhabited

@[reducible] def Ty.den : Ty → Type
  | .int _ => Int
  | .bool => Bool
  | .str => ByteArray
  | .unit => Unit
  | .one a => a.den
  | .cons a b => a.den × b.den
  | .sl e => List e.den

def Ty.size : Ty → Nat
  | .int _ => 1
  | .bool => 1
  | .str => 1
  | .unit => 0
  | .one a => a.size
  | .cons a b => a.size + b.size
  | .sl _ => 1

def Ty.dflt : (t : Ty) → t.den
  | .int _ => (0 : Int)
  | .bool => false
  | .str => ByteArray.empty
  | .unit => ()
  | .one a => a.dflt
  | .cons a b => (a.dflt, b.dflt)
  | .sl _ => []

/-- a struct's type: its value is an aggregate of cells -/
def Ty.agg : Ty → Bool
  | .unit => true
  | .one _ => true
  | .cons _ _ => true
  | _ => false

/-- no slice inside -/
def Ty.flat : Ty → Bool
  | .sl _ => false
  | .one a => a.flat
  | .cons a b => a.flat && b.flat
  | _ => true

/-- who may write: shared (true: may be older than the call), one's own, handed away -/
inductive Md where
  | sh (old : Bool) | own (e : Md) | pr (a b : Md) | gone
  deriving DecidableEq, Inhabited
def Md.fst : Md → Md
  | .pr a _ => a
  | .sh o => .sh o
  | _ => .gone
def Md.snd : Md → Md
  | .pr _ b => b
  | .sh o => .sh o
  | _ => .gone
def Md.elem : Md → Md
  | .own e => e
  | .sh o => .sh o
  | _ => .gone

/-- all of it one's own -/
def Ty.mine : Ty → Md
  | .sl e => .own e.mine
  | .one a => a.mine
  | .cons a b => .pr a.mine b.mine
  | _ => .sh false

/-- may be copied: nothing in it is one's own, nothing is gone -/
def Ty.free : Ty → Md → Bool
  | .sl _, m => match m with | .sh _ => true | _ => false
  | .one a, m => a.free m
  | .cons a b, m => a.free m.fst && b.free m.snd
  | _, _ => true

/-- something in it may be older than the call -/
def Ty.old : Ty → Md → Bool
  | .sl e, m => match m with | .sh o => o | .own me => e.old me | _ => false
  | .one a, m => a.old m
  | .cons a b, m => a.old m.fst || b.old m.snd
  | _, _ => false

/-- nothing in it is handed away, and the mode is one of the type -/
def Ty.fits : Ty → Md → Bool
  | .sl e, m => match m with | .sh _ => true | .own me => e.fits me | _ => false
  | .one a, m => a.fits m
  | .cons a b, m => a.fits m.fst && b.fits m.snd
  | _, _ => true

/-- the mode when all that was one's own is given to all -/
def Ty.give : Ty → Md → Md
  | .sl e, m => match m with | .own me => .sh (e.old me) | m => m
  | .one a, m => a.give m
  | .cons a b, m => .pr (a.give m.fst) (b.give m.snd)
  | _, _ => .sh false

/-- the first mode may be taken for the second -/
def Ty.coer : Ty → Md → Md → Bool
  | .sl e, m, m' => match m, m' with
    | .sh o, .sh o' => !o || o'
    | .own me, .sh o => (e.fits me) && (!(e.old me) || o)
    | .own me, .own me' => e.coer me me'
    | _, .gone => true
    | _, _ => false
  | .one a, m, m' => a.coer m m'
  | .cons a b, m, m' => a.coer m.fst m'.fst && b.coer m.snd m'.snd
  | _, _, _ => true

/-! ### places -/
inductive Step where
  | l | r | at (i : Nat)
  deriving DecidableEq, Inhabited

structure Sub where
  t : Ty
  m : Md
  x : t.den
instance : Inhabited Sub := ⟨⟨.unit, .gone, ()⟩⟩

def sub : (t : Ty) → Md → t.den → List Step → Option Sub
  | t, m, x, [] => some ⟨t, m, x⟩
  | .one a, m, x, .l :: p => sub a m x p
  | .cons a _, m, x, .l :: p => sub a m.fst x.1 p
  | .cons _ b, m, x, .r :: p => sub b m.snd x.2 p
  | .sl e, m, x, .at i :: p => match m with
    | .own me => sub e me (x.getD i e.dflt) p
    | .sh o => sub e (.sh o) (x.getD i e.dflt) p
    | _ => none
  | _, _, _, _ => none
/-- all rows on the way are one's own -/
def wr : Ty → Md → List Step → Bool
  | _, _, [] => true
  | .one a, m, .l :: p => wr a m p
  | .cons a _, m, .l :: p => wr a m.fst p
  | .cons _ b, m, .r :: p => wr b m.snd p
  | .sl e, m, .at _ :: p => match m with
    | .own me => wr e me p
    | _ => false
  | _, _, _ => false

def Ty.cast (t t' : Ty) (x : t.den) : Option t'.den := if h : t = t' then some (h ▸ x) else none

def put : (t : Ty) → t.den → List Step → (u : Ty) → u.den → Option t.den
  | t, _, [], u, y => u.cast t y
  | .one a, x, .l :: p, u, y => put a x p u y
  | .cons a _, x, .l :: p, u, y => (put a x.1 p u y).bind fun z => some (z, x.2)
  | .cons _ b, x, .r :: p, u, y => (put b x.2 p u y).bind fun z => some (x.1, z)
  | .sl e, x, .at i :: p, u, y => (put e (x.getD i e.dflt) p u y).bind fun z => some (x.set i z)
  | _, _, _, _, _ => none

/-- the mode of the whole when a part's mode has turned; an element's mode is that of all elements -/
def mdPut : Ty → Md → List Step → Md → Option Md
  | _, _, [], m' => some m'
  | .one a, m, .l :: p, m' => mdPut a m p m'
  | .cons a _, m, .l :: p, m' => (mdPut a m.fst p m').bind fun z => some (.pr z m.snd)
  | .cons _ b, m, .r :: p, m' => (mdPut b m.snd p m').bind fun z => some (.pr m.fst z)
  | .sl e, m, .at _ :: p, m' => match m with
    | .own me => (mdPut e me p m').bind fun z => if z = me then some (.own me) else none
    | _ => none
  | _, _, _, _ => none

/-! ### what a slot holds -/
inductive VK where
  | reg | box | tup | map | pin (f : Option Nat)
  deriving DecidableEq, Inhabited
/-- a tuple, a map, a pointer or closure that came in: not the data themselves -/
def VK.whole : VK → Bool
  | .tup => true
  | .map => true
  | .pin (some _) => true
  | _ => false
/-- not to be handed over or written through -/
def VK.lent : VK → Bool
  | .map => true
  | .pin _ => true
  | _ => false
inductive RK where
  | ali | plc | clo (g : Nat)
  deriving DecidableEq, Inhabited
inductive SV where
  | no
  | val (k : VK) (t : Ty) (m : Md) (x : t.den)
  | ref (k : RK) (r ver sver dver : Nat) (p : List Step) (t : Ty)
  | fn (g : Nat) (cs : List Nat)
  | nil
  | und
  | clo (g : Nat) (cs : List (Nat × Nat))
  deriving Inhabited
/-- what it holds, and how often it was written anew, its rows' places were turned, its own cells were written -/
structure Slot where
  ver : Nat
  sver : Nat
  dver : Nat
  sv : SV
  deriving Inhabited
/-- a slot without its mode; its mode; with another mode -/
def Slot.core (s : Slot) : Slot := ⟨s.ver, s.sver, s.dver, match s.sv with | .val k t _ x => .val k t .gone x | v => v⟩
def Slot.md (s : Slot) : Md := match s.sv with | .val _ _ m _ => m | _ => .gone
def Slot.withMd (s : Slot) (m : Md) : Slot := ⟨s.ver, s.sver, s.dver, match s.sv with | .val k t _ x => .val k t m x | v => v⟩
/-- does the way lead through a row -/
def hasAt : List Step → Bool
  | [] => false
  | .at _ :: _ => true
  | _ :: p => hasAt p
def Ty.isSl : Ty → Bool
  | .sl _ => true
  | _ => false
/-- a reference still means what it meant -/
def refOk (k : RK) (p : List Step) (t : Ty) (v s d : Nat) (q : Slot) : Bool :=
  decide (q.ver = v) && match k with
    | .plc => !hasAt p || decide (q.sver = s)
    | .clo _ => !hasAt p || decide (q.sver = s)
    | .ali => decide (q.sver = s) && (t.isSl || (decide (q.dver = d) && !hasAt p))
abbrev Env := List (Nat × Slot)
def Env.get : Env → Nat → Slot
  | [], _ => ⟨0, 0, 0, .no⟩
  | (i, s) :: r, n => if i = n then s else Env.get r n
def Env.set : Env → Nat → Slot → Env
  | [], n, s => [(n, s)]
  | (i, z) :: r, n, s => if n < i then (n, s) :: (i, z) :: r else if i = n then (n, s) :: r else (i, z) :: Env.set r n s

/-! ### what is known of a program -/
structure TInfo where
  ty : Ty
  fields : List (List Step × Ty)
  eq : Bool := false
inductive PSig where
  | val (t : Ty) | mv (t : Ty) (m : Md) | io (t : Ty) (m : Md) | pio (t : Ty) (m m' : Md) | fn (g : Nat) (caps : List Ty) | pin (f : Option Nat) (t : Ty)
inductive RSig where
  | val (t : Ty) (m : Md) | ptr (t : Ty) (m : Md)
inductive Shape where
  | val (k : VK) (t : Ty) (m : Md) | ref (k : RK) (r : Nat) (p : List Step) (t : Ty) | fn (g : Nat) (cs : List Nat) | clo (g : Nat) (cs : List Nat) | row (k : RK) (r : Nat) (t : Ty)
structure Sig where
  fid : Nat
  fn : Func
  params : List PSig
  results : List RSig
  retain : Bool := false
  loops : List (Nat × List (Nat × Shape)) := []
  marks : List (Nat × Nat × Nat) := []
  regain : Bool := false
  clos : List (Option (Nat × Nat)) := []
structure Ctx where
  tys : List (Option TInfo)
  sigs : List Sig
  maps : List Nat := []
  clos : Bool := false
  arrs : List (Nat × List (List Step × Ty)) := []
/-- an array of numbers: where its elements lie in it -/
def Ctx.arr (Γ : Ctx) (T : Nat) : Option (List (List Step × Ty)) := (Γ.arrs.find? fun x => decide (x.1 = T)).map (·.2)

def prodTy : List Ty → Ty
  | [] => .unit
  | [t] => t
  | t :: u :: r => .cons t (prodTy (u :: r))
def PSig.tys : PSig → List Ty
  | .val t => [t]
  | .mv t _ => [t]
  | .io t _ => [t]
  | .pio t _ _ => [t]
  | .fn _ cs => cs
  | .pin _ t => [t]
def PSig.back : PSig → List Ty
  | .io t _ => [t]
  | .pio t _ _ => [t]
  | _ => []
def RSig.ty : RSig → Ty
  | .val t _ => t
  | .ptr t _ => t
def Sig.ins (g : Sig) : List Ty := g.params.flatMap PSig.tys
def Sig.outs (g : Sig) : List Ty := g.results.map RSig.ty ++ g.params.flatMap PSig.back
def Ctx.insL (Γ : Ctx) (n : Nat) : List Ty := match Γ.sigs[n]? with | some g => g.ins | none => []
def Ctx.outsL (Γ : Ctx) (n : Nat) : List Ty := match Γ.sigs[n]? with | some g => g.outs | none => []
abbrev Fun (Γ : Ctx) := (n : Nat) → (prodTy (Γ.insL n)).den → Option (prodTy (Γ.outsL n)).den

def mkProd : (ts : List Ty) → List ((t : Ty) × t.den) → Option (prodTy ts).den
  | [], [] => some ()
  | [t], [d] => d.1.cast t d.2
  | t :: u :: r, d :: ds => (d.1.cast t d.2).bind fun a => (mkProd (u :: r) ds).bind fun b => some (a, b)
  | _, _ => none
def unProd : (ts : List Ty) → (prodTy ts).den → List ((t : Ty) × t.den)
  | [], _ => []
  | [t], x => [⟨t, x⟩]
  | t :: u :: r, x => ⟨t, x.1⟩ :: unProd (u :: r) x.2

/-! ### one operation, as a reader and writer of slots -/
inductive M (Γ : Ctx) (α : Type) where
  | ret (a : α)
  | get (s : Nat) (k : Slot → M Γ α)
  | set (s : Nat) (z : Slot) (k : M Γ α)
  | fail
  | ite (b : Bool) (x y : M Γ α)
  | ask (n : Nat) (a : (prodTy (Γ.insL n)).den) (k : (prodTy (Γ.outsL n)).den → M Γ α)
  | peek (s : Nat) (k : Slot → M Γ α)
  | mode (s : Nat) (m : Md) (k : M Γ α)
def M.bind {Γ : Ctx} {α β : Type} : M Γ α → (α → M Γ β) → M Γ β
  | .ret a, f => f a
  | .get s k, f => .get s fun z => (k z).bind f
  | .set s z k, f => .set s z (k.bind f)
  | .fail, _ => .fail
  | .ite b x y, f => .ite b (x.bind f) (y.bind f)
  | .ask n a k, f => .ask n a fun z => (k z).bind f
  | .peek s k, f => .peek s fun z => (k z).bind f
  | .mode s m k, f => .mode s m (k.bind f)
def M.ofOpt {Γ : Ctx} {α : Type} : Option α → M Γ α
  | some a => .ret a
  | none => .fail

/-- run, with what comes next -/
def M.run {Γ : Ctx} {α R : Type} (O : Fun Γ) : M Γ α → Env → (α → Env → Option R) → Option R
  | .ret a, e, k => k a e
  | .get s q, e, k => (q (e.get s)).run O e k
  | .set s z q, e, k => q.run O (e.set s z) k
  | .fail, _, _ => none
  | .ite b x y, e, k => cond b (x.run O e k) (y.run O e k)
  | .ask n a q, e, k => (O n a).bind fun z => (q z).run O e k
  | .peek s q, e, k => (q (e.get s).core).run O e k
  | .mode s m q, e, k => q.run O (e.set s ((e.get s).withMd m)) k

def Ctx.ti (Γ : Ctx) (T : Nat) : M Γ TInfo := match Γ.tys[T]? with | some (some i) => .ret i | _ => .fail
def Ctx.ty (Γ : Ctx) (T : Nat) : M Γ Ty := (Γ.ti T).bind fun i => .ret i.ty

end Go.Den
/-
  The evaluator's operations: each reads slots and turns slots.
-/
namespace Go.Den
open Go
variable {Γ : Ctx}

def decodeV : (t : Ty) → Value → Option t.den
  | .int k, .int k' n => if k = k' then some n else none
  | .bool, .bool b => some b
  | .str, .string s => some s
  | .sl _, .slice Option.none 0 0 => some []
  | _, _ => none

inductive OV where
  | data (k : VK) (t : Ty) (m : Md) (x : t.den) (src : Option (Nat × List Step))
  | ptr (r : Nat) (p : List Step) (t : Ty)
  | clo (g r : Nat) (p : List Step) (t : Ty)
  | fn (g : Nat) (cs : List Nat)
  | nil
  | cst (v : Value)
  | cl (g : Nat) (cs : List (Nat × Nat))

def rdSlot (s : Nat) : M Γ OV := .get s fun z => match z.sv with
  | .no => .fail
  | .und => .fail
  | .nil => .ret .nil
  | .fn g cs => .ret (.fn g cs)
  | .clo g cs => .ret (.cl g cs)
  | .val .box t _ _ => .ret (.ptr s [] t)
  | .val .map t m x => .ret (.data .map t m x (some (s, [])))
  | .val (.pin none) t _ _ => .ret (.ptr s [] t)
  | .val (.pin (some g)) t m x => .ret (.data (.pin (some g)) t m x (some (s, [])))
  | .val .reg t m x => .ret (.data .reg t m x (some (s, [])))
  | .val .tup t m x => .ret (.data .tup t m x (some (s, [])))
  | .ref .plc r v sv dv p t => .get r fun q => if refOk .plc p t v sv dv q then .ret (.ptr r p t) else .fail
  | .ref (.clo g) r v sv dv p t => .get r fun q => if refOk (.clo g) p t v sv dv q then .ret (.clo g r p t) else .fail
  | .ref .ali r v sv dv p t => .get r fun q => if refOk .ali p t v sv dv q then
      match q.sv with
      | .val k T N X => match sub T N X p with
        | some z => .ret (.data (if p = [] then (if k.whole then k else .reg) else .reg) z.t z.m z.x (some (r, p)))
        | none => .fail
      | _ => .fail
    else .fail
def rd : Operand → M Γ OV
  | .tmp s => rdSlot s
  | .const v => .ret (.cst v)
  | .func f => .ret (.fn f [])
  | .global _ => .fail

structure Dt (t : Ty) where
  m : Md
  x : t.den
  src : Option (Nat × List Step)

def asData (t : Ty) : OV → M Γ (Dt t)
  | .data .reg t' m x src => (M.ofOpt (t'.cast t x)).bind fun y => .ret ⟨m, y, src⟩
  | .nil => match t with
    | .sl e => .ret ⟨.own e.mine, ([] : List e.den), none⟩
    | _ => .fail
  | .cst v => (M.ofOpt (decodeV t v)).bind fun y => .ret ⟨t.mine, y, none⟩
  | _ => .fail
def asInt (k : IntKind) (o : OV) : M Γ Int := (asData (.int k) o).bind fun d => .ret d.x
def asBool (o : OV) : M Γ Bool := (asData .bool o).bind fun d => .ret d.x

/-- a slot written anew -/
def newSv (d : Nat) (sv : SV) : M Γ Unit := .get d fun q => .set d ⟨q.ver + 1, 0, 0, sv⟩ (.ret ())
def out (d : Option Nat) (sv : SV) : M Γ Unit := match d with
  | none => .ret ()
  | some d => newSv d sv
def scal (d : Option Nat) (t : Ty) (x : t.den) : M Γ Unit := out d (.val .reg t (.sh false) x)
/-- a value that may be copied, as it is kept -/
def keep (t : Ty) (m : Md) : Md := if t.flat then .sh false else m

/-- the way down to the first row that is passed through: what is taken out of a row takes the row with it -/
def preAt : List Step → List Step
  | [] => []
  | .at _ :: _ => []
  | s :: p => s :: preAt p
/-- what is one's own is handed over (or, if so told, given to all) -/
def handOver (gv : Bool) (t : Ty) (m : Md) (src : Option (Nat × List Step)) : M Γ Md :=
  if t.free m then .ret m else
  match src with
  | none => .ret m
  | some (r, p) => if gv && hasAt p then .fail else .get r fun q => match q.sv with
    | .val k T N X => if k.lent then .fail else
      if gv then (if t.coer m (t.give m) then (M.ofOpt (mdPut T N p (t.give m))).bind fun N' => .mode r N' (.ret (t.give m)) else .fail)
      else (M.ofOpt (mdPut T N (preAt p) .gone)).bind fun N' => .mode r N' (.ret m)
    | _ => .fail
/-- a slot whose value is now another's: it stands for that -/
def aliasTo (t : Ty) (m : Md) (src : Option (Nat × List Step)) (d : Nat) : M Γ Unit :=
  match src with
  | some (r, []) => if r = d || t.free m then .ret () else .get r fun q => match q.sv with
    | .val .reg _ _ _ => .get d fun z => .set r ⟨q.ver + 1, 0, 0, .ref .ali d z.ver z.sver z.dver [] t⟩ (.ret ())
    | _ => .ret ()
  | _ => .ret ()

def moveM (d : Option Nat) (T : M Γ Ty) (x : Operand) : M Γ Unit := match x with
  | .tmp s => .get s fun z => match z.sv with
    | .val .box t _ _ => out d (.ref .plc s z.ver z.sver 0 [] t)
    | .val (.pin none) t _ _ => out d (.ref .plc s z.ver z.sver 0 [] t)
    | .val k t m x => if k = .reg && t.free m then out d (.val .reg t (keep t m) x) else out d (.ref .ali s z.ver z.sver z.dver [] t)
    | .no => .fail
    | .und => .fail
    | sv => out d sv
  | .const (.slice Option.none 0 0) => out d .nil
  | .const (.pointer Option.none) => out d .no
  | .const .nilIface => out d .no
  | .const v => T.bind fun t => (M.ofOpt (decodeV t v)).bind fun y => out d (.val .reg t (keep t t.mine) y)
  | .func f => out d (.fn f [])
  | .global _ => .fail

/-- a slot that stands for a part of what has moved: it stands for the same part of where that is now -/
def rerootM (X : Option Nat) (p0 : List Step) (r d : Nat) : M Γ Unit := match X, p0 with
  | some n, [] => if n = d || n = r then .ret () else .get n fun z => .get r fun q => .get d fun y => match z.sv with
    | .ref .ali r' v s dv p t => if decide (r' = r) && decide (p ≠ []) && refOk .ali p t v s dv q then .set n ⟨z.ver + 1, 0, 0, .ref .ali d y.ver y.sver y.dver p t⟩ (.ret ()) else .ret ()
    | _ => .ret ()
  | _, _ => .ret ()

def assignM (gv al : Bool) (X : Option Nat) (d : Option Nat) (T : M Γ Ty) (x : Operand) : M Γ Unit := match x with
  | .tmp s => (rdSlot s).bind fun o => match o with
    | .data .reg t m x (some (r, p)) =>
      if t.free m then out d (.val .reg t (keep t m) x)
      else if d = some r then (if p = [] then .get r fun z => match z.sv with | .val .reg _ _ _ => .ret () | _ => .fail else .fail)
      else match d with
        | none => .fail
        | some d => .get r fun z => match z.sv with
          | .val k _ _ _ => if gv || (decide (k = .tup) && (!al || decide (p = []))) || (decide (k = .reg) && decide (p = [])) then
              (handOver gv t m (some (r, p))).bind fun h => (newSv d (.val .reg t h x)).bind fun _ => if gv then .ret () else (rerootM X p r d).bind fun _ => aliasTo t m (some (r, p)) d
            else if k.lent then .fail else newSv d (.ref .ali r z.ver z.sver z.dver p t)
          | _ => .fail
    | .data .reg t m x none => if t.free m then out d (.val .reg t (keep t m) x) else .fail
    | .data .map t _ _ (some (r, p)) => .get r fun z => out d (.ref .ali r z.ver z.sver z.dver p t)
    | .data (.pin (some _)) t _ _ (some (r, p)) => .get r fun z => out d (.ref .ali r z.ver z.sver z.dver p t)
    | .ptr r p t => .get r fun z => out d (.ref .plc r z.ver z.sver 0 p t)
    | .clo g r p t => .get r fun z => out d (.ref (.clo g) r z.ver z.sver 0 p t)
    | .fn g cs => out d (.fn g cs)
    | .cl g cs => out d (.clo g cs)
    | .nil => out d .nil
    | _ => .fail
  | x => moveM d T x

def loadM (d : Option Nat) (t : Ty) (a : Operand) : M Γ Unit := (rd a).bind fun o => match o with
  | .ptr r p _ => .get r fun q => match q.sv with
    | .val _ T N X => match sub T N X p with
      | some z => if z.t = t then (if z.t.free z.m then out d (.val .reg z.t (keep z.t z.m) z.x) else if z.t.agg && hasAt p then .fail else out d (.ref .ali r q.ver q.sver q.dver p z.t)) else .fail
      | none => .fail
    | _ => .fail
  | _ => .fail

def storeM (gv : Bool) (t : Ty) (a v : Operand) : M Γ Unit := (rd a).bind fun o => match o with
  | .ptr r p t' => if t' = t && decide (0 < t.size) then (rd v).bind fun ov => (asData t ov).bind fun y =>
      (handOver gv t y.m y.src).bind fun h =>
        .get r fun q => match q.sv with
        | .val k T N X => if wr T N p && !k.lent then (M.ofOpt (put T X p t y.x)).bind fun X' =>
          (if t.flat then .set r ⟨q.ver, q.sver, if hasAt p then q.dver else q.dver + 1, .val k T N X'⟩ (.ret ())
           else (M.ofOpt (mdPut T N p h)).bind fun N' => .set r ⟨q.ver, q.sver + 1, 0, .val k T N' X'⟩ (.ret ())) else .fail
        | _ => .fail
    else .fail
  | _ => .fail

/-! ### maps from texts to numbers -/
def mapTy : Ty := .sl (.cons .str (.int .i64))
def mget : List (ByteArray × Int) → ByteArray → Int
  | [], _ => 0
  | (a, v) :: r, k => cond (k == a) v (mget r k)
def mput : List (ByteArray × Int) → ByteArray → Int → List (ByteArray × Int)
  | [], k, v => [(k, v)]
  | (a, u) :: r, k, v => cond (k == a) ((k, v) :: r) ((a, u) :: mput r k v)
def mapNewM (d : Option Nat) : M Γ Unit := out d (.val .map mapTy .gone ([] : List (ByteArray × Int)))
def mapGetM (d : Option Nat) (x k : Operand) : M Γ Unit := (rd x).bind fun o => match o with
  | .data .map t _ X _ => (rd k).bind fun ok => (asData .str ok).bind fun y => (M.ofOpt (t.cast mapTy X)).bind fun l => scal d (.int .i64) (mget l y.x)
  | _ => .fail
def mapPutM (x k v : Operand) : M Γ Unit := (rd x).bind fun o => match o with
  | .data .map _ _ _ (some (r, [])) => (rd k).bind fun ok => (asData .str ok).bind fun y => (rd v).bind fun ov => (asInt .i64 ov).bind fun n => .get r fun q => match q.sv with
      | .val .map t _ X => (M.ofOpt (t.cast mapTy X)).bind fun l => .set r ⟨q.ver, q.sver, q.dver, .val .map mapTy .gone (mput l y.x n)⟩ (.ret ())
      | _ => .fail
  | _ => .fail
/-- a closure over one boxed variable -/
def makeFuncM (d : Option Nat) (g : Nat) (x : Operand) : M Γ Unit := (rd x).bind fun o => match o with
  | .ptr r [] t => .get r fun q => out d (.ref (.clo g) r q.ver q.sver 0 [] t)
  | _ => .fail

/-- a closure over boxes -/
def capsM : List Operand → M Γ (List (Nat × Nat))
  | [] => .ret []
  | .tmp s :: r => .get s fun z => match z.sv with
    | .val .box _ _ _ => (capsM r).bind fun l => .ret ((s, z.ver) :: l)
    | .val (.pin none) _ _ _ => (capsM r).bind fun l => .ret ((s, z.ver) :: l)
    | _ => .fail
  | _ => .fail
def makeCloM (d : Option Nat) (g : Nat) (cs : List Operand) : M Γ Unit := (capsM cs).bind fun l => out d (.clo g l)
/-- what a closure is bound to is still what it was -/
def capsOk : List (Nat × Nat) → M Γ Unit
  | [] => .ret ()
  | c :: r => .get c.1 fun z => if z.ver = c.2 then capsOk r else .fail

def fieldAddrM (d : Option Nat) (i : TInfo) (x : Operand) (k : Nat) : M Γ Unit := (rd x).bind fun o => match o with
  | .ptr r p t => if t = i.ty then match i.fields[k]? with
      | some f => .get r fun q => out d (.ref .plc r q.ver q.sver 0 (p ++ f.1) f.2)
      | none => .fail
    else .fail
  | _ => .fail

/-- a place in an array, told by a number -/
def arrAddrM (d : Option Nat) (t : Ty) (fs : List (List Step × Ty)) (x ix : Operand) : M Γ Unit := (rd x).bind fun o => match o, ix with
  | .ptr r p t', .const (.int .i64 k) => if t' = t && decide (0 ≤ k) then match fs[k.toNat]? with
      | some f => .get r fun q => out d (.ref .plc r q.ver q.sver 0 (p ++ f.1) f.2)
      | none => .fail
    else .fail
  | _, _ => .fail
def inside (n : Int) (l : Nat) : Bool := decide (0 ≤ n) && decide (n < (l : Int))
def indexAddrM (d : Option Nat) (t : Ty) (x i : Operand) : M Γ Unit := match t with
  | .sl e => (rd x).bind fun o => (asData (.sl e) o).bind fun y => (rd i).bind fun oi => (asInt .i64 oi).bind fun n =>
      match (match y.m with | .own _ => y.src | .sh _ => y.src | _ => none) with
      | some (r, p) => .ite (inside n (List.length y.x)) (.get r fun q => out d (.ref .plc r q.ver q.sver 0 (p ++ [.at n.toNat]) e)) .fail
      | none => .fail
  | _ => .fail
def bAt (s : ByteArray) (i : Nat) : Int := ((s.data.toList.getD i 0).toNat : Int)
def indexM (d : Option Nat) (t : Ty) (x i : Operand) : M Γ Unit := match t with
  | .str => (rd x).bind fun o => (asData .str o).bind fun y => (rd i).bind fun oi => (asInt .i64 oi).bind fun n =>
      .ite (inside n (ByteArray.size y.x)) (scal d (.int .u8) (bAt y.x n.toNat)) .fail
  | _ => .fail

def eqD : (t : Ty) → t.den → t.den → Option Bool
  | .int _, a, b => some (@BEq.beq Int _ a b)
  | .bool, a, b => some (@BEq.beq Bool _ a b)
  | .str, a, b => some (@BEq.beq ByteArray _ a b)
  | .cons a b, x, y => (eqD a x.1 y.1).bind fun p => (eqD b x.2 y.2).bind fun q => some (p && q)
  | _, _, _ => none

def bitsD (op : BinOp) (k : IntKind) (x y : Int) : Option Int :=
  match op with
  | .and => some (k.wrap (BitVec.ofInt k.bits x &&& BitVec.ofInt k.bits y).toNat)
  | .or => some (k.wrap (BitVec.ofInt k.bits x ||| BitVec.ofInt k.bits y).toNat)
  | .xor => some (k.wrap (BitVec.ofInt k.bits x ^^^ BitVec.ofInt k.bits y).toNat)
  | .andNot => some (k.wrap (BitVec.ofInt k.bits x &&& ~~~BitVec.ofInt k.bits y).toNat)
  | _ => none

def intBin (d : Option Nat) (op : BinOp) (k : IntKind) (a b : Int) : M Γ Unit :=
  match op with
  | .add => scal d (.int k) (k.wrap (a + b))
  | .sub => scal d (.int k) (k.wrap (a - b))
  | .mul => scal d (.int k) (k.wrap (a * b))
  | .quo => .ite (decide (b = 0)) .fail (scal d (.int k) (k.wrap (a.tdiv b)))
  | .rem => .ite (decide (b = 0)) .fail (scal d (.int k) (a.tmod b))
  | .eql => scal d .bool (@BEq.beq Int _ a b)
  | .neq => scal d .bool (@bne Int _ a b)
  | .lss => scal d .bool (decide (a < b))
  | .leq => scal d .bool (decide (a ≤ b))
  | .gtr => scal d .bool (decide (a > b))
  | .geq => scal d .bool (decide (a ≥ b))
  | .shl => .ite (decide (b < 0)) .fail (scal d (.int k) (k.wrap (a * 2 ^ (min b.toNat k.bits))))
  | .shr => .ite (decide (b < 0)) .fail (scal d (.int k) (a.fdiv (2 ^ (min b.toNat k.bits))))
  | op => (M.ofOpt (bitsD op k a b)).bind fun r => scal d (.int k) r

def strBin (d : Option Nat) (op : BinOp) (x y : ByteArray) : M Γ Unit :=
  match op with
  | .add => .ite (decide (x.size + y.size ≤ 9223372036854775807)) (scal d .str (x ++ y)) .fail
  | .eql => scal d .bool (x.toList == y.toList)
  | .neq => scal d .bool (!(x.toList == y.toList))
  | _ => .fail

def binM (d : Option Nat) (op : BinOp) (t : Ty) (eq : Bool) (x y : Operand) (t2 : Ty) : M Γ Unit := (rd x).bind fun ox => (rd y).bind fun oy =>
  match t, op with
  | .int k, .shl => match t2 with
    | .int k2 => (asInt k ox).bind fun a => (asInt k2 oy).bind fun b => intBin d .shl k a b
    | _ => .fail
  | .int k, .shr => match t2 with
    | .int k2 => (asInt k ox).bind fun a => (asInt k2 oy).bind fun b => intBin d .shr k a b
    | _ => .fail
  | .int k, op => (asInt k ox).bind fun a => (asInt k oy).bind fun b => intBin d op k a b
  | .str, op => (asData .str ox).bind fun a => (asData .str oy).bind fun b => strBin d op a.x b.x
  | .bool, .eql => (asBool ox).bind fun a => (asBool oy).bind fun b => scal d .bool (@BEq.beq Bool _ a b)
  | .bool, .neq => (asBool ox).bind fun a => (asBool oy).bind fun b => scal d .bool (!(@BEq.beq Bool _ a b))
  | .cons t u, .eql => if eq then (asData (.cons t u) ox).bind fun a => (asData (.cons t u) oy).bind fun b => (M.ofOpt (eqD (.cons t u) a.x b.x)).bind fun r => scal d .bool r else .fail
  | .cons t u, .neq => if eq then (asData (.cons t u) ox).bind fun a => (asData (.cons t u) oy).bind fun b => (M.ofOpt (eqD (.cons t u) a.x b.x)).bind fun r => scal d .bool (!r) else .fail
  | _, _ => .fail

def unM (d : Option Nat) (op : UnOp) (t : Ty) (x : Operand) : M Γ Unit := (rd x).bind fun o =>
  match op, t with
  | .neg, .int k => (asInt k o).bind fun a => scal d (.int k) (k.wrap (0 - a))
  | .not, .bool => (asBool o).bind fun b => scal d .bool (!b)
  | _, _ => .fail

def toStr (xs : List Int) : ByteArray := ⟨(xs.map fun n => UInt8.ofNat n.toNat).toArray⟩
def convM (d : Option Nat) (s t : Ty) (x : Operand) : M Γ Unit := (rd x).bind fun o =>
  match s, t with
  | .int k, .int k' => (asInt k o).bind fun a => scal d (.int k') (k'.wrap a)
  | .sl (.int .u8), .str => (asData (.sl (.int .u8)) o).bind fun a => if (Ty.sl (.int .u8)).fits a.m then scal d .str (toStr a.x) else .fail
  | .str, .str => (asData .str o).bind fun a => scal d .str a.x
  | _, _ => .fail

def lenM (d : Option Nat) (t : Ty) (x : Operand) : M Γ Unit := (rd x).bind fun o =>
  match t with
  | .sl e => (asData (.sl e) o).bind fun a => scal d (.int .i64) (List.length a.x : Int)
  | .str => (asData .str o).bind fun a => scal d (.int .i64) (ByteArray.size a.x : Int)
  | _ => .fail
def maxM (d : Option Nat) (t : Ty) (x y : Operand) : M Γ Unit := (rd x).bind fun ox => (rd y).bind fun oy =>
  match t with
  | .int k => (asInt k ox).bind fun a => (asInt k oy).bind fun b => scal d (.int k) (if b > a then b else a)
  | _ => .fail
def minM (d : Option Nat) (t : Ty) (x y : Operand) : M Γ Unit := (rd x).bind fun ox => (rd y).bind fun oy =>
  match t with
  | .int k => (asInt k ox).bind fun a => (asInt k oy).bind fun b => scal d (.int k) (if b < a then b else a)
  | _ => .fail

def room : Nat := 1099511627776
def joinMd (e : Ty) (a b : Md) : Option Md := if e.flat then some (.sh false) else if a = b then some a else if e.free a && e.free b then some (.sh (e.old a || e.old b)) else none
def joinO (e : Ty) : Option Md → Md → Option Md
  | none, h => some h
  | some m0, h => joinMd e m0 h
def sameRoot : Option (Nat × List Step) → Option (Nat × List Step) → Bool
  | some (r, _), some (r', _) => decide (r = r')
  | _, _ => false
def appendM (d : Option Nat) (t : Ty) (x y : Operand) : M Γ Unit := match t with
  | .sl e => (rd x).bind fun ox => (rd y).bind fun oy => (asData (.sl e) ox).bind fun a => (asData (.sl e) oy).bind fun b =>
      match a.m with
      | .own me =>
        if !((Ty.sl e).fits a.m && (Ty.sl e).fits b.m) then .fail else
        if sameRoot a.src b.src then .fail else
        (M.ofOpt (joinMd e me b.m.elem)).bind fun mj =>
        .ite (decide (List.length a.x + List.length b.x ≤ room))
          ((handOver false (.sl e) a.m a.src).bind fun _ => (if e.flat then .ret b.m else handOver false (.sl e) b.m b.src).bind fun _ =>
            out d (.val .reg (.sl e) (.own mj) (@HAppend.hAppend (List e.den) (List e.den) _ _ a.x b.x)))
          .fail
      | _ => .fail
  | _ => .fail

def allocM (d : Option Nat) (t : Ty) : M Γ Unit := out d (.val .box t t.mine t.dflt)
def boxM (gv : Bool) (d : Option Nat) (t : Ty) (x : Operand) : M Γ Unit := (rd x).bind fun o => (asData t o).bind fun y => match d with
  | none => .fail
  | some d => (handOver gv t y.m y.src).bind fun h => (newSv d (.val .box t h y.x)).bind fun _ => if gv then .ret () else aliasTo t y.m y.src d

/-- the parts of a struct, one behind the other, laid into a whole -/
def fillM (i : TInfo) (gv : Bool) : List (Nat × Operand) → Md → i.ty.den → List Nat → M Γ (Md × i.ty.den)
  | [], m, x, _ => .ret (m, x)
  | (k, o) :: rest, m, x, rs => match i.fields[k]? with
    | none => .fail
    | some f => (rd o).bind fun ov => (asData f.2 ov).bind fun y =>
      match (if f.2.free y.m then none else y.src) with
      | none => (M.ofOpt (put i.ty x f.1 f.2 y.x)).bind fun x' => (M.ofOpt (mdPut i.ty m f.1 (keep f.2 y.m))).bind fun m' => fillM i gv rest m' x' rs
      | some (r, p) => if rs.contains r then .fail else (handOver gv f.2 y.m (some (r, p))).bind fun h =>
          (M.ofOpt (put i.ty x f.1 f.2 y.x)).bind fun x' => (M.ofOpt (mdPut i.ty m f.1 h)).bind fun m' => fillM i gv rest m' x' (r :: rs)
def buildM (d : Option Nat) (i : TInfo) (gv : Bool) (ps : List (Nat × Operand)) : M Γ Unit :=
  (fillM i gv ps i.ty.mine i.ty.dflt []).bind fun z => out d (.val .reg i.ty z.1 z.2)

/-- a slice literal: its elements in their order; rows are given to all, unless so told -/
def rowM (e : Ty) (gv : Bool) : List (Nat × Operand) → Nat → List e.den → Option Md → List Nat → M Γ (Option Md × List e.den)
  | [], _, xs, m, _ => .ret (m, xs.reverse)
  | (k, o) :: rest, n, xs, m, rs => if k = n then (rd o).bind fun ov => (asData e ov).bind fun y =>
      match (if e.free y.m then none else y.src) with
      | none => (M.ofOpt (joinO e m (keep e y.m))).bind fun m' => rowM e gv rest (n + 1) (y.x :: xs) (some m') rs
      | some (r, p) => if rs.contains r then .fail else (handOver gv e y.m (some (r, p))).bind fun h =>
          (M.ofOpt (joinO e m h)).bind fun m' => rowM e gv rest (n + 1) (y.x :: xs) (some m') (r :: rs)
    else .fail
/-- where the one row of a literal comes from -/
def rowSrc (al : Bool) (e : Ty) (ps : List (Nat × Operand)) : M Γ (Option Nat) := if al then match ps with
  | [(_, o)] => (rd o).bind fun ov => (asData e ov).bind fun y => match y.src with
      | some (r, []) => .get r fun q => .ret (match q.sv with | .val .reg _ _ _ => some r | _ => none)
      | _ => .ret none
  | _ => .ret none else .ret none
/-- the slot that it came from stands for the row -/
def rowAliasM (s d : Option Nat) (e : Ty) : M Γ Unit := match s, d with
  | some r, some d => if r = d then .ret () else .get r fun q => match q.sv with
    | .val .reg _ _ _ => .get d fun z => .set r ⟨q.ver + 1, 0, 0, .ref .ali d z.ver z.sver z.dver [.at 0] e⟩ (.ret ())
    | _ => .ret ()
  | _, _ => .ret ()
def buildSliceM (d : Option Nat) (t : Ty) (len : Nat) (gv al : Bool) (ps : List (Nat × Operand)) : M Γ Unit := match t with
  | .sl e => (rowSrc al e ps).bind fun s => (rowM e gv ps 0 [] none []).bind fun z =>
      if z.2.length = len && decide (len * e.size ≤ 16777216) then (out d (.val .reg (.sl e) (.own (z.1.getD e.mine)) z.2)).bind fun _ => rowAliasM s d e else .fail
  | _ => .fail
def sameOperand : Operand → Operand → Bool
  | .tmp a, .tmp b => decide (a = b)
  | .const (.int _ a), .const (.int _ b) => decide (a = b)
  | _, _ => false
def makeSliceM (d : Option Nat) (t : Ty) (l c : Operand) : M Γ Unit := match t with
  | .sl e => if sameOperand l c then (rd l).bind fun o => (asInt .i64 o).bind fun n =>
      .ite (decide (0 ≤ n) && decide (n ≤ (room : Int))) (out d (.val .reg (.sl e) (.own e.mine) (List.replicate n.toNat e.dflt))) .fail else .fail
  | _ => .fail

def optInt (dflt : Int) : Option Operand → M Γ Int
  | none => .ret dflt
  | some o => (rd o).bind fun ov => asInt .i64 ov
def cutM (own : Bool) (d : Option Nat) (t : Ty) (x : Operand) (lo hi : Option Operand) : M Γ Unit := (rd x).bind fun o =>
  match t with
  | .str => (asData .str o).bind fun a => (optInt 0 lo).bind fun l => (optInt (ByteArray.size a.x) hi).bind fun h =>
      .ite (decide (0 ≤ l) && decide (l ≤ h) && decide (h ≤ (ByteArray.size a.x : Int))) (scal d .str (ByteArray.extract a.x l.toNat h.toNat)) .fail
  | .sl e => (asData (.sl e) o).bind fun a => (optInt 0 lo).bind fun l => (optInt (List.length a.x) hi).bind fun h =>
      .ite (decide (0 ≤ l) && decide (l ≤ h) && decide (h ≤ (List.length a.x : Int)))
        ((handOver (!own) (.sl e) a.m a.src).bind fun g => if (Ty.sl e).fits g then out d (.val .reg (.sl e) g ((List.take h.toNat a.x).drop l.toNat)) else .fail) .fail
  | _ => .fail

/-- the place of a tuple's component -/
def compAt (i : Nat) : List Step := List.replicate i .r ++ [.l]
def extractM0 (i : Nat) (d : Option Nat) (x : Operand) : M Γ Unit := (rd x).bind fun o => match o with
  | .data .tup T m X (some (r, p)) => match sub T m X (compAt i) with
    | some z => if z.t.free z.m then out d (.val .reg z.t (keep z.t z.m) z.x) else .get r fun q => out d (.ref .ali r q.ver q.sver q.dver (p ++ compAt i) z.t)
    | none => .fail
  | _ => .fail
/-- a number or a yes out of a tuple that another slot holds: its mode is not read -/
def fastX (i : Nat) : Operand → M Γ (Option ((t : Ty) × t.den))
  | .tmp s => .peek s fun z => match z.sv with
    | .ref .ali r v sv dv [] t => .peek r fun q => match q.sv with
      | .val .tup T _ X => .ret (cond (refOk .ali [] t v sv dv q) (match sub T .gone X (compAt i) with | some y => cond y.t.flat (some ⟨y.t, y.x⟩) none | none => none) none)
      | _ => .ret none
    | _ => .ret none
  | _ => .ret none
def extractM (i : Nat) (d : Option Nat) (x : Operand) : M Γ Unit := (fastX i x).bind fun f => match f with
  | some y => out d (.val .reg y.1 (.sh false) y.2)
  | none => extractM0 i d x

end Go.Den
/-
  The evaluator of whole functions: calls, regions, blocks, loops; the meaning of a function is the least one.
-/
namespace Go.Den
open Go
variable {Γ : Ctx}

/-! ### calls -/
def tupTy : List Ty → Ty
  | [] => .unit
  | [t] => .one t
  | t :: u :: r => .cons t (tupTy (u :: r))
def mkTup : (ts : List Ty) → List ((t : Ty) × t.den) → Option (tupTy ts).den
  | [], [] => some ()
  | [t], [d] => d.1.cast t d.2
  | t :: u :: r, d :: ds => (d.1.cast t d.2).bind fun a => (mkTup (u :: r) ds).bind fun b => some (a, b)
  | _, _ => none
def tupMd : List Md → Md
  | [] => .sh false
  | [m] => m
  | m :: u :: r => .pr m (tupMd (u :: r))
def RSig.md : RSig → Md
  | .val _ m => m
  | .ptr _ m => m

def RSig.isVal : RSig → Bool
  | .val _ _ => true
  | .ptr _ _ => false

structure Back where
  r : Nat
  p : List Step
  t : Ty
  m : Md
  deep : Bool
  box : Bool
/-- rows of numbers and the like: a callee that writes them turns no row's place -/
def Ty.rowsFlat : Ty → Bool
  | .sl e => e.flat
  | .one a => a.rowsFlat
  | .cons a b => a.rowsFlat && b.rowsFlat
  | _ => true

structure Args where
  ds : List ((t : Ty) × t.den)
  own : List Nat
  seen : List Nat
  backs : List Back

def argM (retain : Bool) (g : PSig) (o : OV) (z : Args) : M Γ Args := match g with
  | .val t => (asData t o).bind fun y =>
      if t.free y.m then .ret { z with ds := z.ds ++ [⟨t, y.x⟩] } else
      match y.src with
      | none => if t.fits y.m then .ret { z with ds := z.ds ++ [⟨t, y.x⟩] } else .fail
      | some (r, _) => if z.own.contains r || !t.fits y.m then .fail else
          if retain then (if z.seen.contains r then .fail else (handOver true t y.m y.src).bind fun _ => .ret { z with ds := z.ds ++ [⟨t, y.x⟩], seen := r :: z.seen })
          else .ret { z with ds := z.ds ++ [⟨t, y.x⟩], seen := r :: z.seen }
  | .mv t m => (asData t o).bind fun y => if !t.coer y.m m then .fail else
      match y.src with
      | none => .ret { z with ds := z.ds ++ [⟨t, y.x⟩] }
      | some (r, _) => if t.free y.m then .ret { z with ds := z.ds ++ [⟨t, y.x⟩] } else if z.own.contains r || z.seen.contains r then .fail else
          (handOver false t y.m y.src).bind fun _ => .ret { z with ds := z.ds ++ [⟨t, y.x⟩], own := r :: z.own }
  | .io t m => (asData t o).bind fun y => if !t.coer y.m m || !t.coer m y.m then .fail else
      match y.src with
      | none => .fail
      | some (r, p) => if z.own.contains r || z.seen.contains r then .fail else
          .ret { z with ds := z.ds ++ [⟨t, y.x⟩], own := r :: z.own, backs := z.backs ++ [⟨r, p, t, m, !t.rowsFlat, false⟩] }
  | .pio t m m' => match o with
      | .ptr r [] _ => if z.own.contains r || z.seen.contains r then .fail else .get r fun q => match q.sv with
          | .val .box T N X => if T.coer N m && T.coer m N then (M.ofOpt (T.cast t X)).bind fun x => .ret { z with ds := z.ds ++ [⟨t, x⟩], own := r :: z.own, backs := z.backs ++ [⟨r, [], t, m', true, true⟩] } else .fail
          | _ => .fail
      | _ => .fail
  | .fn g cs => match o with
      | .fn g' cs' => if g = g' && cs = [] && cs' = [] then .ret z else .fail
      | _ => .fail
  | .pin f t => if retain then .fail else match o with
      | .ptr r [] _ => if f = none && !z.own.contains r then (.get r fun q => match q.sv with
          | .val .box T N X => if T.fits N then (M.ofOpt (T.cast t X)).bind fun x => .ret { z with ds := z.ds ++ [⟨t, x⟩], seen := r :: z.seen } else .fail
          | .val (.pin _) T _ X => (M.ofOpt (T.cast t X)).bind fun x => .ret { z with ds := z.ds ++ [⟨t, x⟩] }
          | _ => .fail) else .fail
      | .clo g r [] _ => if f = some g && !z.own.contains r then (.get r fun q => match q.sv with
          | .val .box T N X => if T.fits N then (M.ofOpt (T.cast t X)).bind fun x => .ret { z with ds := z.ds ++ [⟨t, x⟩], seen := r :: z.seen } else .fail
          | .val (.pin _) T _ X => (M.ofOpt (T.cast t X)).bind fun x => .ret { z with ds := z.ds ++ [⟨t, x⟩] }
          | _ => .fail) else .fail
      | .data (.pin f') T _ X _ => if f = f' then (M.ofOpt (T.cast t X)).bind fun x => .ret { z with ds := z.ds ++ [⟨t, x⟩] } else .fail
      | _ => .fail
def argsM (retain : Bool) : List PSig → List Operand → Args → M Γ Args
  | [], [], z => .ret z
  | g :: gs, o :: os, z => (rd o).bind fun ov => (argM retain g ov z).bind fun z => argsM retain gs os z
  | _, _, _ => .fail

def backM : List Back → List ((t : Ty) × t.den) → M Γ Unit
  | [], [] => .ret ()
  | b :: bs, d :: ds => .get b.r fun q => match q.sv with
      | .val k T N X => if k.lent then .fail else (M.ofOpt ((d.1.cast b.t d.2).bind fun y => put T X b.p b.t y)).bind fun X' => (M.ofOpt (mdPut T N b.p b.m)).bind fun N' =>
          .set b.r (if b.deep then ⟨q.ver, q.sver + 1, 0, .val k T N' X'⟩ else ⟨q.ver, q.sver, q.dver, .val k T N' X'⟩) (backM bs ds)
      | _ => .fail
  | _, _ => .fail

def resM (d : Option Nat) (rs : List RSig) (ds : List ((t : Ty) × t.den)) : M Γ Unit := match rs, ds with
  | [], [] => out d .no
  | [.val t m], [x] => (M.ofOpt (x.1.cast t x.2)).bind fun y => out d (.val .reg t (keep t m) y)
  | [.ptr t m], [x] => (M.ofOpt (x.1.cast t x.2)).bind fun y => out d (.val .box t m y)
  | rs, ds => if !rs.all RSig.isVal then .fail else (M.ofOpt (mkTup (rs.map RSig.ty) ds)).bind fun y => out d (.val .tup (tupTy (rs.map RSig.ty)) (tupMd (rs.map RSig.md)) y)

/-- what a closure is bound to -/
def capOf : OV → OV
  | .data (.pin (some _)) t m x s => .data (.pin none) t m x s
  | .clo _ r p t => .ptr r p t
  | _ => .nil
def isCap : OV → Bool
  | .data (.pin (some _)) _ _ _ _ => true
  | .clo _ _ _ _ => true
  | _ => false
/-- the arguments, then what the closure is bound to -/
def argsC (retain : Bool) : List PSig → List Operand → Operand → Args → M Γ Args
  | [g], [], f, z => (rd f).bind fun ov => if isCap ov then argM retain g (capOf ov) z else .fail
  | g :: gs, o :: os, f, z => (rd o).bind fun ov => (argM retain g ov z).bind fun z => argsC retain gs os f z
  | _, _, _, _ => .fail
def callC (n : Nat) (g : Sig) (d : Option Nat) (os : List Operand) (f : Operand) : M Γ Unit :=
  (argsC g.retain g.params os f ⟨[], [], [], []⟩).bind fun z =>
    (M.ofOpt (mkProd (Γ.insL n) z.ds)).bind fun a =>
      .ask n a fun r =>
        (backM z.backs ((unProd (Γ.outsL n) r).drop g.results.length)).bind fun _ =>
          resM d g.results ((unProd (Γ.outsL n) r).take g.results.length)
def callM (n : Nat) (g : Sig) (d : Option Nat) (os : List Operand) : M Γ Unit :=
  (argsM g.retain g.params os ⟨[], [], [], []⟩).bind fun z =>
    (M.ofOpt (mkProd (Γ.insL n) z.ds)).bind fun a =>
      .ask n a fun r =>
        (backM z.backs ((unProd (Γ.outsL n) r).drop g.results.length)).bind fun _ =>
          resM d g.results ((unProd (Γ.outsL n) r).take g.results.length)

/-- which of the told functions a call means: its number, and the functions that are handed to it -/
def fitsFn : List PSig → List (Option Nat) → Bool
  | [], [] => true
  | .fn g _ :: r, f :: fs => decide (f = some g) && fitsFn r fs
  | .pin (some g) _ :: r, f :: fs => decide (f = some g) && fitsFn r fs
  | _ :: r, _ :: fs => fitsFn r fs
  | _, _ => false
def findSig (f : Nat) (fs : List (Option Nat)) (cl : List (Option (Nat × Nat))) : List Sig → Nat → Option (Nat × Sig)
  | [], _ => none
  | g :: r, n => if g.fid = f && decide (g.clos = cl) && fitsFn g.params fs then some (n, g) else findSig f fs cl r (n + 1)
def fnsOf : List Operand → M Γ (List (Option Nat))
  | [] => .ret []
  | .tmp s :: r => .get s fun z => (match z.sv with | .fn g _ => .ret (some g) | .val (.pin (some g)) _ _ _ => .ret (some g) | .ref (.clo g) _ _ _ _ _ _ => .ret (some g) | .ref .ali q _ _ _ _ _ => .get q fun y => .ret (match y.sv with | .val (.pin (some g)) _ _ _ => some g | _ => none) | _ => .ret none : M Γ (Option Nat)).bind fun g => (fnsOf r).bind fun fs => .ret (g :: fs)
  | .func f :: r => (fnsOf r).bind fun fs => .ret (some f :: fs)
  | _ :: r => (fnsOf r).bind fun fs => .ret (none :: fs)
/-- closures among the arguments, what they are bound to in their places -/
def closOf : List Operand → M Γ (List (Option (Nat × List (Nat × Nat))))
  | [] => .ret []
  | .tmp s :: r => .get s fun z => (closOf r).bind fun l => .ret ((match z.sv with | .clo g cs => some (g, cs) | _ => none) :: l)
  | _ :: r => (closOf r).bind fun l => .ret (none :: l)
def spread : List Operand → List (Option (Nat × List (Nat × Nat))) → List Operand
  | o :: os, some (_, cs) :: l => (cs.map fun c => Operand.tmp c.1) ++ spread os l
  | o :: os, none :: l => o :: spread os l
  | os, [] => os
  | [], _ => []
def capsAll : List (Option (Nat × List (Nat × Nat))) → M Γ Unit
  | [] => .ret ()
  | some (_, cs) :: l => (capsOk cs).bind fun _ => capsAll l
  | none :: l => capsAll l
def closN (l : List (Option (Nat × List (Nat × Nat)))) : List (Option (Nat × Nat)) := l.map fun x => x.map fun y => (y.1, y.2.length)
def callFn (d : Option Nat) (g : Nat) (os : List Operand) : M Γ Unit := (fnsOf os).bind fun fs => match findSig g fs [] Γ.sigs 0 with
  | some (n, σ) => callM n σ d os
  | none => .fail
def callPk (d : Option Nat) (g : Nat) (os : List Operand) (cl : List (Option (Nat × List (Nat × Nat)))) : M Γ Unit := (fnsOf (spread os cl)).bind fun fs => match findSig g fs (closN cl) Γ.sigs 0 with
  | some (n, σ) => (capsAll cl).bind fun _ => callM n σ d (spread os cl)
  | none => .fail
def callAny (d : Option Nat) (f : Operand) (os : List Operand) : M Γ Unit := (rd f).bind fun o => match o with
  | .fn g cs => if Γ.clos then (closOf os).bind fun cl => if cl.all Option.isNone then callFn d g (os ++ cs.map Operand.tmp) else callPk d g os cl
      else callFn d g (os ++ cs.map Operand.tmp)
  | .cl g cs => (capsOk cs).bind fun _ => callFn d g (os ++ cs.map fun c => Operand.tmp c.1)
  | .data (.pin (some g)) _ _ _ _ => (fnsOf os).bind fun fs => match findSig g (fs ++ [none]) [] Γ.sigs 0 with
      | some (n, σ) => callC n σ d os f
      | none => .fail
  | .clo g _ _ _ => (fnsOf os).bind fun fs => match findSig g (fs ++ [none]) [] Γ.sigs 0 with
      | some (n, σ) => callC n σ d os f
      | none => .fail
  | _ => .fail

/-! ### one operation -/
def marked (σ : Sig) (reg idx code : Nat) : Bool := σ.marks.any fun x => decide (x.1 = reg) && decide (x.2.1 = idx) && decide (x.2.2 = code)
def slotMark (σ : Sig) (reg idx : Nat) : Option Nat := (σ.marks.find? fun x => decide (x.1 = reg) && decide (x.2.1 = idx) && decide (100 ≤ x.2.2)).map fun x => x.2.2 - 100
def opM (Γ : Ctx) (σ : Sig) (reg idx : Nat) (o : Oper) : M Γ Unit :=
  let gv := marked σ reg idx 1
  let d := o.dst
  match o.op with
  | .move x => moveM d (Γ.ty o.type) x
  | .assign x => assignM gv (marked σ reg idx 4) (slotMark σ reg idx) d (Γ.ty o.type) x
  | .pick c a b => (rd c).bind fun oc => (asBool oc).bind fun t => .ite t (moveM d (Γ.ty o.type) a) (moveM d (Γ.ty o.type) b)
  | .alloc T => (Γ.ty T).bind fun t => allocM d t
  | .box T x => (Γ.ty T).bind fun t => boxM gv d t x
  | .build T ps => (Γ.ti T).bind fun i => if i.ty.agg && !i.fields.isEmpty then buildM d i gv ps.toList else .fail
  | .buildSlice T n ps => (Γ.ty T).bind fun t => buildSliceM d t n (!marked σ reg idx 2) (marked σ reg idx 5) ps.toList
  | .load T a => (Γ.ty T).bind fun t => loadM d t a
  | .store T a x => if d = none then (Γ.ty T).bind fun t => storeM gv t a x else .fail
  | .nilCheck x => (rd x).bind fun o => match o with
      | .ptr r p t => .get r fun q => out d (.ref .plc r q.ver q.sver 0 p t)
      | .fn g cs => out d (.fn g cs)
      | _ => .fail
  | .makeMap T none => if Γ.maps.contains T then mapNewM d else .fail
  | .lookup T x k false => if Γ.maps.contains T then mapGetM d x k else .fail
  | .mapUpdate T m k x => if d = none && Γ.maps.contains T then mapPutM m k x else .fail
  | .insert T m k x => if d = none && Γ.maps.contains T then mapPutM m k x else .fail
  | .makeFunc (.func g) fs cs => match fs.toList, cs.toList with
      | [], [c] => if marked σ reg idx 7 then makeCloM d g [c] else makeFuncM d g c
      | [], cs => makeCloM d g cs
      | _, _ => .fail
  | .binOp op T x y T2 => (Γ.ti T).bind fun i => (Γ.ty T2).bind fun t2 => binM d op i.ty i.eq x y t2
  | .unOp op T x => (Γ.ty T).bind fun t => unM d op t x
  | .convert S T x => (Γ.ty S).bind fun s => (Γ.ty T).bind fun t => convM d s t x
  | .makeSlice T l c => (Γ.ty T).bind fun t => makeSliceM d t l c
  | .slice T x lo hi none => (Γ.ty T).bind fun t => cutM (marked σ reg idx 3) d t x lo hi
  | .fieldAddr T x k => (Γ.ti T).bind fun i => fieldAddrM d i x k
  | .indexAddr T x i => match Γ.arr T with
    | some fs => (Γ.ty T).bind fun t => arrAddrM d t fs x i
    | none => (Γ.ty T).bind fun t => indexAddrM d t x i
  | .index T x i => (Γ.ty T).bind fun t => indexM d t x i
  | .extract x i => extractM i d x
  | .call ⟨.value f, as, _⟩ => callAny d f as.toList
  | .call ⟨.builtin b, as, ts⟩ => match b, as.toList, ts.toList with
      | .len, [x], [T] => (Γ.ty T).bind fun t => lenM d t x
      | .append, [x, y], [T, T2] => (Γ.ty T).bind fun t => (Γ.ty T2).bind fun t2 => if t = t2 then appendM d t x y else .fail
      | .max, [x, y], [T, _] => (Γ.ty T).bind fun t => maxM d t x y
      | .min, [x, y], [T, _] => (Γ.ty T).bind fun t => minM d t x y
      | _, _, _ => .fail
  | _ => .fail

/-- an operation whose guard says no is passed by -/
def guardM (ops : List Oper) (o : Oper) (m : M Γ Unit) : M Γ Unit := match o.guard with
  | none => m
  | some (j, want) => match (ops[j]?).bind Oper.dst with
    | some s => .get s fun z => match z.sv with
      | .val .reg .bool _ b => .ite (b == want) m (out o.dst .und)
      | .und => out o.dst .und
      | _ => .fail
    | none => .fail
/-- no parameter that the caller gets back is written over -/
def Sig.held (σ : Sig) : List Nat := (σ.params.zipIdx.filterMap fun x => match x.1 with | .io .. => some x.2 | .pio .. => some x.2 | _ => none)
def okDst (σ : Sig) (o : Oper) : Bool := match o.dst with
  | none => true
  | some d => decide (d < σ.fn.ntmps) && !σ.held.contains d
def stepM (Γ : Ctx) (σ : Sig) (reg : Nat) (ops : List Oper) (i : Nat) (o : Oper) : M Γ Unit :=
  if okDst σ o then guardM ops o (opM Γ σ reg i o) else .fail

/-! ### regions -/
def isSrc (ops : List Oper) (i : Nat) : Bool := ops.any fun o => match o.guard with | some (j, _) => decide (j = i) | none => false
/-- a test that guards what follows parts the ways at once -/
def fork {R : Type} (b : Bool) (d : Option Nat) (k : Env → Option R) (e : Env) : Option R :=
  if b then match d with
    | some d => match e.get d with
      | ⟨v, sv, dv, .val .reg .bool m x⟩ => cond x (k (e.set d ⟨v, sv, dv, .val .reg .bool m true⟩)) (k (e.set d ⟨v, sv, dv, .val .reg .bool m false⟩))
      | _ => k e
    | none => k e
  else k e
def runOps {R : Type} (Γ : Ctx) (O : Fun Γ) (σ : Sig) (reg : Nat) (ops : List Oper) : List Oper → Nat → (Env → Option R) → Env → Option R
  | [], _, k, e => k e
  | o :: rest, i, k, e => (stepM Γ σ reg ops i o).run O e fun _ e' => fork (isSrc ops i) o.dst (runOps Γ O σ reg ops rest (i + 1) k) e'

/-- the same, with what each read and wrote -/
def M.runR {α R : Type} (O : Fun Γ) : M Γ α → Env → List Nat → List Nat → (α → Env → List Nat → List Nat → Option R) → Option R
  | .ret a, e, rs, ws, k => k a e rs ws
  | .get n q, e, rs, ws, k => (q (e.get n)).runR O e (2 * n :: (2 * n + 1) :: rs) ws k
  | .set n z q, e, rs, ws, k => q.runR O (e.set n z) rs (2 * n :: (2 * n + 1) :: ws) k
  | .fail, _, _, _, _ => none
  | .ite b x y, e, rs, ws, k => cond b (x.runR O e rs ws k) (y.runR O e rs ws k)
  | .ask n a q, e, rs, ws, k => (O n a).bind fun z => (q z).runR O e rs ws k
  | .peek n q, e, rs, ws, k => (q (e.get n).core).runR O e (2 * n :: rs) ws k
  | .mode n m q, e, rs, ws, k => q.runR O (e.set n ((e.get n).withMd m)) (2 * n :: rs) ((2 * n + 1) :: ws) k
structure Foot where
  rs : List Nat
  ws : List Nat
def meets (a b : List Nat) : Bool := a.any fun x => b.contains x
def clash (a b : Foot) : Bool := meets a.ws b.rs || meets a.ws b.ws || meets a.rs b.ws
/-- bits: what stands ahead of each operation in whatever order -/
def anc : List Oper → List Nat → List Nat
  | [], acc => acc
  | o :: r, acc => anc r (acc ++ [o.after.toList.foldl (fun s e => if Region.binds .any e then s ||| 2 ^ e.on ||| acc.getD e.on 0 else s) 0])
def clashFree (an : List Nat) : List Foot → Nat → List Foot → Bool
  | [], _, _ => true
  | f :: r, j, acc => (acc.zipIdx.all fun x => !clash x.1 f || (an.getD j 0).testBit x.2) && clashFree an r (j + 1) (acc ++ [f])
/-- no operation waits for a later one -/
def upward (ops : List Oper) : Bool := ops.zipIdx.all fun x => x.1.after.toList.all fun e => !Region.binds .any e || decide (e.on < x.2)
def runDraw {R : Type} (Γ : Ctx) (O : Fun Γ) (σ : Sig) (reg : Nat) (ops : List Oper) : List Oper → Nat → List Foot → (Env → Option R) → Env → Option R
  | [], _, fs, k, e => if upward ops && clashFree (anc ops []) fs 0 [] then k e else none
  | o :: rest, i, fs, k, e => (stepM Γ σ reg ops i o).runR O e [] [] fun _ e' rs ws => fork (isSrc ops i) o.dst (runDraw Γ O σ reg ops rest (i + 1) (fs ++ [⟨rs, ws⟩]) k) e'

/-! ### code -/
/-- at a loop's head: what is carried, in the told shape -/
def shapeM (e : Env) (z : Slot) : Shape → Option SV
  | .val k t m => match z.sv with
    | .val k' t' m' x => if k = k' && t'.coer m' m && (!k.lent || decide (m' = m)) then (t'.cast t x).bind fun y => some (.val k t m y) else none
    | .nil => match k, t with
      | .reg, .sl e' => if (Ty.sl e').coer (.own e'.mine) m then some (.val .reg (.sl e') m ([] : List e'.den)) else none
      | _, _ => none
    | _ => none
  | .ref k r p t => match z.sv with
    | .ref k' r' v sv dv p' t' => if k = k' && r = r' && p = p' && t = t' && refOk k p t v sv dv (e.get r) then some (.ref k r 0 0 0 p t) else none
    | _ => none
  | .fn g cs => match z.sv with
    | .fn g' cs' => if g = g' && cs = cs' then some (.fn g cs) else none
    | _ => none
  | .row k r t => match z.sv with
    | .ref k' r' v sv dv p' t' => if k = k' && r = r' && t = t' && refOk k p' t v sv dv (e.get r) then some (.ref k r 0 0 0 p' t) else none
    | _ => none
  | .clo g cs => match z.sv with
    | .clo g' cs' => if g = g' && cs'.map (·.1) = cs && cs'.all (fun c => decide ((e.get c.1).ver = c.2)) then some (.clo g (cs.map fun c => (c, 0))) else none
    | _ => none
def norm (e : Env) : List (Nat × Shape) → Option Env
  | [] => some []
  | (n, s) :: r => (shapeM e (e.get n) s).bind fun v => (norm e r).bind fun e' => some ((n, ⟨0, 0, 0, v⟩) :: e')
def shapesOk : List (Nat × Shape) → List (Nat × Shape) → Bool
  | [], _ => true
  | (_, .row _ r _) :: rest, all => (match all.find? fun x => decide (x.1 = r) with | some (_, .val ..) => true | _ => false) && shapesOk rest all
  | (_, .ref _ r _ _) :: rest, all => (match all.find? fun x => decide (x.1 = r) with | some (_, .val ..) => true | _ => false) && shapesOk rest all
  | _ :: rest, all => shapesOk rest all

/-- the least upper bound of ever more rounds -/
noncomputable def lub {α : Type} (c : Nat → Option α) : Option α := open Classical in if h : ∃ r n, c n = some r then some h.choose else none
def iterN {R : Type} (F : (Env → Option R) → Env → Option R) : Nat → Env → Option R
  | 0, _ => none
  | n + 1, e => F (iterN F n) e
noncomputable def fixF {R : Type} (F : (Env → Option R) → Env → Option R) (e : Env) : Option R := lub fun n => iterN F n e

structure Ks (R : Type) where
  exits : List (Nat × (Env → Option R))
  ret : Env → Option R
def exitOf {R : Type} : List (Nat × (Env → Option R)) → Nat → Env → Option R
  | [], _, _ => none
  | (i, k) :: r, n, e => if i = n then k e else exitOf r n e
def condB : Operand → M Γ Bool
  | x => (rd x).bind asBool
def ann (σ : Sig) (b : Nat) : Option (List (Nat × Shape)) := match σ.loops.find? fun x => decide (x.1 = b) with
  | some x => if shapesOk x.2 x.2 then some x.2 else none
  | none => none

def enter {R : Type} (l : List (Nat × Shape)) (k : Env → Option R) (e : Env) : Option R := (norm e l).bind k
/-- a place told as a function of its own: a region's number behind 100000 -/
noncomputable def hold {R : Type} (k : Env → Option R) (e : Env) : Option R := lub fun _ => k e
def regK {R : Type} (Γ : Ctx) (O : Fun Γ) (σ : Sig) (id : Nat) (ops : List Oper) (draw : Bool) (k : Env → Option R) : Env → Option R :=
  if draw then runDraw Γ O σ id ops ops 0 [] k else runOps Γ O σ id ops ops 0 k
noncomputable def evalC {R : Type} (Γ : Ctx) (O : Fun Γ) (σ : Sig) : Code → Nat → Ks R → (Env → Option R) → Env → Option R
  | .skip, _, _, k => k
  | .region id ops draw, _, _, k => match ann σ (100000 + id) with
      | some l => enter l (hold (regK Γ O σ id ops.toList draw k))
      | none => regK Γ O σ id ops.toList draw k
  | .seq a b, n, ks, k => evalC Γ O σ a n ks (evalC Γ O σ b n ks k)
  | .cond c a b, n, ks, k => fun e => (condB (Γ := Γ) c).run O e fun t e => cond t (evalC Γ O σ a n ks k e) (evalC Γ O σ b n ks k e)
  | .block id c, _, ks, k => evalC Γ O σ c id ⟨(id, k) :: ks.exits, ks.ret⟩ k
  | .loop c, n, ks, _ => match ann σ n with
      | some l => enter l (fixF fun k => evalC Γ O σ c n ks (enter l k))
      | none => fun _ => none
  | .exit id, _, ks, _ => exitOf ks.exits id
  | .ret, _, ks, _ => ks.ret
  | _, _, _, _ => fun _ => none

/-! ### a function's begin and end -/
def startSV : List PSig → Nat → List ((t : Ty) × t.den) → Option Env
  | [], _, [] => some []
  | .val t :: r, i, d :: ds => (d.1.cast t d.2).bind fun x => (startSV r (i + 1) ds).bind fun e => some ((i, ⟨0, 0, 0, .val .reg t (if t.flat then .sh false else .sh true) x⟩) :: e)
  | .mv t m :: r, i, d :: ds => (d.1.cast t d.2).bind fun x => (startSV r (i + 1) ds).bind fun e => some ((i, ⟨0, 0, 0, .val .reg t m x⟩) :: e)
  | .io t m :: r, i, d :: ds => (d.1.cast t d.2).bind fun x => (startSV r (i + 1) ds).bind fun e => some ((i, ⟨0, 0, 0, .val .reg t m x⟩) :: e)
  | .pio t m _ :: r, i, d :: ds => (d.1.cast t d.2).bind fun x => (startSV r (i + 1) ds).bind fun e => some ((i, ⟨0, 0, 0, .val .box t m x⟩) :: e)
  | .fn g [] :: r, i, ds => (startSV r (i + 1) ds).bind fun e => some ((i, ⟨0, 0, 0, .fn g []⟩) :: e)
  | .pin f t :: r, i, d :: ds => (d.1.cast t d.2).bind fun x => (startSV r (i + 1) ds).bind fun e => some ((i, ⟨0, 0, 0, .val (.pin f) t (if t.flat then .sh false else .sh true) x⟩) :: e)
  | _, _, _ => none

/-- what may be given to all where it lies -/
def givable : Option (Nat × List Step) → Bool
  | some (_, p) => !hasAt p
  | none => true
/-- one result taken -/
def takeRes (retain : Bool) (g : RSig) (v : ResultVar) : M Γ ((t : Ty) × t.den) := match g, v with
  | .val t m, .tmp s => (rdSlot s).bind fun o => (asData t o).bind fun y =>
      if t.coer y.m m && (retain || !t.old m) then (handOver (t.free m && givable y.src) t y.m y.src).bind fun h => if t.coer h m then .ret ⟨t, y.x⟩ else .fail else .fail
  | .val t m, .cell s T => (Γ.ty T).bind fun t' => if t' ≠ t then .fail else (rdSlot s).bind fun o => match o with
      | .ptr r p _ => .get r fun q => match q.sv with
        | .val _ T N X => match sub T N X p with
          | some y => if t.coer y.m m && (retain || !t.old m) then (M.ofOpt (y.t.cast t y.x)).bind fun x => (handOver false t y.m (some (r, p))).bind fun _ => .ret ⟨t, x⟩ else .fail
          | none => .fail
        | _ => .fail
      | _ => .fail
  | .ptr t m, .tmp s => (rdSlot s).bind fun o => match o with
      | .ptr r [] _ => .get r fun q => match q.sv with
        | .val .box T N X => if T.coer N m && (retain || !t.old m) then (M.ofOpt (T.cast t X)).bind fun x => .set r ⟨q.ver + 1, 0, 0, .no⟩ (.ret ⟨t, x⟩) else .fail
        | _ => .fail
      | _ => .fail
  | _, _ => .fail
def takeBack (retain : Bool) (g : PSig) (i : Nat) : M Γ (List ((t : Ty) × t.den)) := match g with
  | .io t m => (rdSlot i).bind fun o => (asData t o).bind fun y => if t.coer y.m m && !t.free y.m && (retain || !t.old m) then (handOver false t y.m y.src).bind fun _ => .ret [⟨t, y.x⟩] else .fail
  | .pio t _ m => .get i fun q => match q.sv with
      | .val .box T N X => if T.coer N m && (retain || !t.old m) then (M.ofOpt (T.cast t X)).bind fun x => .set i ⟨q.ver + 1, 0, 0, .no⟩ (.ret [⟨t, x⟩]) else .fail
      | _ => .fail
  | _ => .ret []
def endRes {R : Type} (O : Fun Γ) (retain : Bool) (fin : List ((t : Ty) × t.den) → Env → Option R) : List RSig → List ResultVar → List ((t : Ty) × t.den) → Env → Option R
  | [], [], ds, e => fin ds e
  | g :: gs, v :: vs, ds, e => (takeRes (Γ := Γ) retain g v).run O e fun z e => endRes O retain fin gs vs (ds ++ [z]) e
  | _, _, _, _ => none
def endBack {R : Type} (O : Fun Γ) (retain : Bool) (fin : List ((t : Ty) × t.den) → Option R) : List PSig → Nat → List ((t : Ty) × t.den) → Env → Option R
  | [], _, ds, _ => fin ds
  | g :: gs, i, ds, e => (takeBack (Γ := Γ) retain g i).run O e fun z e => endBack O retain fin gs (i + 1) (ds ++ z) e
def PSig.plain : PSig → Bool
  | .val _ => true
  | .fn _ _ => true
  | _ => false
/-- the results as the body leaves them; with 'regain', a list that all may read is the only one that leaves, so that it is the caller's own -/
def Sig.given (σ : Sig) : List RSig := match σ.regain, σ.results with
  | true, [.val (.sl e) (.own (.sh false)), .val t m] => if e.flat && t.flat && σ.params.all PSig.plain then [.val (.sl e) (.sh false), .val t m] else [.val (.sl e) (.own (.sh false)), .val t m]
  | _, rs => rs
def retK (Γ : Ctx) (O : Fun Γ) (n : Nat) (σ : Sig) : Env → Option (prodTy (Γ.outsL n)).den :=
  endRes O σ.retain (fun ds => endBack O σ.retain (fun ds => mkProd (Γ.outsL n) ds) σ.params 0 ds) σ.given σ.fn.results.toList []

/-- a function that takes closures is told of by hand alone -/
def Sig.start (σ : Sig) (ds : List ((t : Ty) × t.den)) : Option Env := match σ.clos with
  | [] => startSV σ.params 0 ds
  | _ => none
noncomputable def evalF (Γ : Ctx) (O : Fun Γ) (n : Nat) (a : (prodTy (Γ.insL n)).den) : Option (prodTy (Γ.outsL n)).den :=
  match Γ.sigs[n]? with
  | none => none
  | some σ => match σ.fn.body with
    | none => none
    | some c => (σ.start (unProd (Γ.insL n) a)).bind (evalC Γ O σ c 0 ⟨[], retK Γ O n σ⟩ (retK Γ O n σ))

/-- ever more is told, and in the end all of x -/
structure Lim {α : Type} (c : Nat → Option α) (x : Option α) : Prop where
  up : ∀ j r, c j = some r → c (j + 1) = some r
  all : ∀ r, x = some r ↔ ∃ j, c j = some r
/-- what is told of functions from elsewhere; it may lean on what is told of others -/
structure Ext (Γ : Ctx) where
  has : Nat → Bool
  f : Fun Γ → Fun Γ
  lim : ∀ (O : Nat → Fun Γ) (P : Fun Γ), (∀ n a, Lim (fun j => O j n a) (P n a)) → ∀ n a, has n = true → Lim (fun j => f (O j) n a) (f P n a)
noncomputable def denN (Γ : Ctx) (X : Ext Γ) : Nat → Fun Γ
  | 0 => fun _ _ => none
  | k + 1 => fun n a => if X.has n then X.f (denN Γ X k) n a else evalF Γ (denN Γ X k) n a
noncomputable def den (Γ : Ctx) (X : Ext Γ) : Fun Γ := fun n a => lub fun k => denN Γ X k n a

end Go.Den
/-
  The evaluator begun at a place inside the code.
-/
namespace Go.Den
open Go

/-- the code at a place (the parts' numbers on the way to it), with what comes behind it -/
noncomputable def evalAt {R : Type} (Γ : Ctx) (O : Fun Γ) (σ : Sig) : Code → List Nat → Nat → Ks R → (Env → Option R) → Env → Option R
  | .seq a b, 0 :: p, n, ks, k => evalAt Γ O σ a p n ks (evalC Γ O σ b n ks k)
  | .seq _ b, 1 :: p, n, ks, k => evalAt Γ O σ b p n ks k
  | .cond _ a _, 0 :: p, n, ks, k => evalAt Γ O σ a p n ks k
  | .cond _ _ b, 1 :: p, n, ks, k => evalAt Γ O σ b p n ks k
  | .block id c, 0 :: p, _, ks, k => evalAt Γ O σ c p id ⟨(id, k) :: ks.exits, ks.ret⟩ k
  | .loop c, 0 :: p, n, ks, k => evalAt Γ O σ c p n ks (evalC Γ O σ (.loop c) n ks k)
  | .region id ops draw, [], _, _, k => hold (regK Γ O σ id ops.toList draw k)
  | .loop c, [], n, ks, _ => match ann σ n with
      | some l => fixF fun k => evalC Γ O σ c n ks (enter l k)
      | none => fun _ => none
  | _, _, _, _, _ => fun _ => none
/-- one round of the loop that stands there -/
noncomputable def stepAt {R : Type} (Γ : Ctx) (O : Fun Γ) (σ : Sig) : Code → List Nat → Nat → Ks R → (Env → Option R) → Env → Option R
  | .seq a b, 0 :: p, n, ks, k => stepAt Γ O σ a p n ks (evalC Γ O σ b n ks k)
  | .seq _ b, 1 :: p, n, ks, k => stepAt Γ O σ b p n ks k
  | .cond _ a _, 0 :: p, n, ks, k => stepAt Γ O σ a p n ks k
  | .cond _ _ b, 1 :: p, n, ks, k => stepAt Γ O σ b p n ks k
  | .block id c, 0 :: p, _, ks, k => stepAt Γ O σ c p id ⟨(id, k) :: ks.exits, ks.ret⟩ k
  | .loop c, 0 :: p, n, ks, k => stepAt Γ O σ c p n ks (evalC Γ O σ (.loop c) n ks k)
  | .region id ops draw, [], _, _, k => regK Γ O σ id ops.toList draw k
  | .loop c, [], n, ks, _ => match ann σ n with
      | some l => evalC Γ O σ c n ks (enter l (fixF fun k => evalC Γ O σ c n ks (enter l k)))
      | none => fun _ => none
  | _, _, _, _, _ => fun _ => none
noncomputable def stepF (Γ : Ctx) (O : Fun Γ) (n : Nat) (p : List Nat) (e : Env) : Option (prodTy (Γ.outsL n)).den :=
  match Γ.sigs[n]? with
  | none => none
  | some σ => match σ.fn.body with
    | none => none
    | some c => stepAt Γ O σ c p 0 ⟨[], retK Γ O n σ⟩ (retK Γ O n σ) e
noncomputable def atF (Γ : Ctx) (O : Fun Γ) (n : Nat) (p : List Nat) (e : Env) : Option (prodTy (Γ.outsL n)).den :=
  match Γ.sigs[n]? with
  | none => none
  | some σ => match σ.fn.body with
    | none => none
    | some c => evalAt Γ O σ c p 0 ⟨[], retK Γ O n σ⟩ (retK Γ O n σ) e

end Go.Den
/-
  The meaning of a function is a fixed point: what it tells is what its text tells.
-/
namespace Go.Den
open Go
set_option linter.unusedVariables false
variable {Γ : Ctx}

theorem Lim.le {α : Type} {c : Nat → Option α} {x : Option α} (h : Lim c x) {i j : Nat} (hij : i ≤ j) {r : α} (hr : c i = some r) : c j = some r := by
  induction hij with
  | refl => exact hr
  | step _ ih => exact h.up _ _ ih
theorem Lim.const {α : Type} (x : Option α) : Lim (fun _ => x) x := ⟨fun _ _ h => h, fun _ => ⟨fun h => ⟨0, h⟩, fun ⟨_, h⟩ => h⟩⟩
theorem Lim.bind {α β : Type} {c : Nat → Option α} {x : Option α} {f : Nat → α → Option β} {g : α → Option β} (h : Lim c x) (k : ∀ z, Lim (fun j => f j z) (g z)) :
    Lim (fun j => (c j).bind (f j)) (x.bind g) := by
  refine ⟨fun j r hr => ?_, fun r => ⟨fun hr => ?_, fun ⟨j, hr⟩ => ?_⟩⟩
  · obtain ⟨z, h1, h2⟩ := Option.bind_eq_some_iff.1 hr
    exact Option.bind_eq_some_iff.2 ⟨z, h.up _ _ h1, (k z).up _ _ h2⟩
  · obtain ⟨z, h1, h2⟩ := Option.bind_eq_some_iff.1 hr
    obtain ⟨i, hi⟩ := (h.all z).1 h1
    obtain ⟨j, hj⟩ := ((k z).all r).1 h2
    exact ⟨max i j, Option.bind_eq_some_iff.2 ⟨z, h.le (Nat.le_max_left _ _) hi, (k z).le (Nat.le_max_right _ _) hj⟩⟩
  · obtain ⟨z, h1, h2⟩ := Option.bind_eq_some_iff.1 hr
    exact Option.bind_eq_some_iff.2 ⟨z, (h.all z).2 ⟨j, h1⟩, ((k z).all r).2 ⟨j, h2⟩⟩
theorem Lim.cond {α : Type} (b : Bool) {c d : Nat → Option α} {x y : Option α} (h : Lim c x) (k : Lim d y) : Lim (fun j => cond b (c j) (d j)) (cond b x y) := by
  cases b
  · exact k
  · exact h
theorem lub_eq {α : Type} {c : Nat → Option α} (hc : ∀ j r, c j = some r → c (j + 1) = some r) (r : α) : lub c = some r ↔ ∃ j, c j = some r := by
  have one : ∀ {i j r s}, c i = some r → c j = some s → r = s := fun {i j r s} h k => by
    have le : ∀ {i j r}, i ≤ j → c i = some r → c j = some r := fun {i j r} hij h => by
      induction hij with
      | refl => exact h
      | step _ ih => exact hc _ _ ih
    have := (le (Nat.le_max_left i j) h).symm.trans (le (Nat.le_max_right i j) k)
    exact Option.some.inj this
  unfold lub
  constructor
  · intro h
    split at h
    · rename_i hx
      obtain ⟨n, hn⟩ := hx.choose_spec
      exact ⟨n, hn.trans h⟩
    · cases h
  · rintro ⟨j, hj⟩
    split
    · rename_i hx
      obtain ⟨n, hn⟩ := hx.choose_spec
      rw [one hn hj]
    · rename_i hx
      exact absurd ⟨r, j, hj⟩ hx
theorem Lim.lub {α : Type} {c : Nat → Option α} (hc : ∀ j r, c j = some r → c (j + 1) = some r) : Lim c (lub c) := ⟨hc, lub_eq hc⟩
theorem lub_const {α : Type} (x : Option α) : lub (fun _ => x) = x := by
  apply Option.ext
  intro r
  exact (lub_eq (c := fun _ => x) (fun _ _ h => h) r).trans ⟨fun ⟨_, h⟩ => h, fun h => ⟨0, h⟩⟩

section
variable {O : Nat → Fun Γ} {P : Fun Γ} (hO : ∀ n a, Lim (fun j => O j n a) (P n a))
include hO
theorem M.run_lim {α R : Type} {k : Nat → α → Env → Option R} {k' : α → Env → Option R} (hk : ∀ a e, Lim (fun j => k j a e) (k' a e)) :
    ∀ (m : M Γ α) (e : Env), Lim (fun j => m.run (O j) e (k j)) (m.run P e k')
  | .ret a, e => hk a e
  | .get s q, e => M.run_lim hk (q (e.get s)) e
  | .set s z q, e => M.run_lim hk q (e.set s z)
  | .fail, _ => Lim.const none
  | .ite b x y, e => Lim.cond b (M.run_lim hk x e) (M.run_lim hk y e)
  | .ask n a q, e => Lim.bind (hO n a) fun z => M.run_lim hk (q z) e
  | .peek s q, e => M.run_lim hk (q (e.get s).core) e
  | .mode s m q, e => M.run_lim hk q (e.set s ((e.get s).withMd m))
theorem M.runR_lim {α R : Type} {k : Nat → α → Env → List Nat → List Nat → Option R} {k' : α → Env → List Nat → List Nat → Option R} (hk : ∀ a e r w, Lim (fun j => k j a e r w) (k' a e r w)) :
    ∀ (m : M Γ α) (e : Env) (r w : List Nat), Lim (fun j => m.runR (O j) e r w (k j)) (m.runR P e r w k')
  | .ret a, e, r, w => hk a e r w
  | .get n q, e, r, w => M.runR_lim hk (q (e.get n)) e (2 * n :: (2 * n + 1) :: r) w
  | .set n z q, e, r, w => M.runR_lim hk q (e.set n z) r (2 * n :: (2 * n + 1) :: w)
  | .fail, _, _, _ => Lim.const none
  | .ite b x y, e, r, w => Lim.cond b (M.runR_lim hk x e r w) (M.runR_lim hk y e r w)
  | .ask n a q, e, r, w => Lim.bind (hO n a) fun z => M.runR_lim hk (q z) e r w
  | .peek n q, e, r, w => M.runR_lim hk (q (e.get n).core) e (2 * n :: r) w
  | .mode n m q, e, r, w => M.runR_lim hk q (e.set n ((e.get n).withMd m)) (2 * n :: r) ((2 * n + 1) :: w)
omit hO in
theorem fork_lim {R : Type} (b : Bool) (d : Option Nat) {k : Nat → Env → Option R} {k' : Env → Option R} (hk : ∀ e, Lim (fun j => k j e) (k' e)) (e : Env) :
    Lim (fun j => fork b d (k j) e) (fork b d k' e) := by
  unfold fork
  cases b
  · exact hk e
  · simp only [if_true]
    cases d with
    | none => exact hk e
    | some d =>
      simp only
      split
      · exact Lim.cond _ (hk _) (hk _)
      · exact hk e
theorem runOps_lim {R : Type} (σ : Sig) (reg : Nat) (ops : List Oper) {k : Nat → Env → Option R} {k' : Env → Option R} (hk : ∀ e, Lim (fun j => k j e) (k' e)) :
    ∀ (l : List Oper) (i : Nat) (e : Env), Lim (fun j => runOps Γ (O j) σ reg ops l i (k j) e) (runOps Γ P σ reg ops l i k' e)
  | [], _, e => hk e
  | o :: rest, i, e => M.run_lim hO (fun _ e => fork_lim _ _ (runOps_lim σ reg ops hk rest (i + 1)) e) _ e
theorem runDraw_lim {R : Type} (σ : Sig) (reg : Nat) (ops : List Oper) {k : Nat → Env → Option R} {k' : Env → Option R} (hk : ∀ e, Lim (fun j => k j e) (k' e)) :
    ∀ (l : List Oper) (i : Nat) (fs : List Foot) (e : Env), Lim (fun j => runDraw Γ (O j) σ reg ops l i fs (k j) e) (runDraw Γ P σ reg ops l i fs k' e)
  | [], _, fs, e => by
    simp only [runDraw]
    split
    · exact hk e
    · exact Lim.const none
  | o :: rest, i, fs, e => M.runR_lim hO (fun _ e r w => fork_lim _ _ (runDraw_lim σ reg ops hk rest (i + 1) _) e) _ e _ _
theorem regK_lim {R : Type} (σ : Sig) (id : Nat) (ops : List Oper) (draw : Bool) {k : Nat → Env → Option R} {k' : Env → Option R} (hk : ∀ e, Lim (fun j => k j e) (k' e)) (e : Env) :
    Lim (fun j => regK Γ (O j) σ id ops draw (k j) e) (regK Γ P σ id ops draw k' e) := by
  unfold regK
  cases draw
  · exact runOps_lim hO σ id ops hk ops 0 e
  · exact runDraw_lim hO σ id ops hk ops 0 [] e
omit hO in
theorem hold_eq {R : Type} (k : Env → Option R) (e : Env) : hold k e = k e := lub_const _
omit hO in
theorem enter_lim {R : Type} (l : List (Nat × Shape)) {k : Nat → Env → Option R} {k' : Env → Option R} (hk : ∀ e, Lim (fun j => k j e) (k' e)) (e : Env) :
    Lim (fun j => enter l (k j) e) (enter l k' e) := Lim.bind (Lim.const _) hk

/-- a step of a loop that keeps what is told -/
def Cont {R : Type} (F : Nat → (Env → Option R) → Env → Option R) (G : (Env → Option R) → Env → Option R) : Prop :=
  ∀ (k : Nat → Env → Option R) (k' : Env → Option R), (∀ e, Lim (fun j => k j e) (k' e)) → ∀ e, Lim (fun j => F j (k j) e) (G k' e)
omit hO in
theorem Cont.mono {R : Type} {G : (Env → Option R) → Env → Option R} (h : Cont (fun _ => G) G) : ∀ (k k' : Env → Option R), (∀ e r, k e = some r → k' e = some r) → ∀ e r, G k e = some r → G k' e = some r := by
  intro k k' hk e r hr
  have L := h (fun j => if j = 0 then k else k') k' (fun e => ⟨fun j r h => by
    cases j with
    | zero => exact hk _ _ h
    | succ j => exact h, fun r => ⟨fun h => ⟨1, h⟩, fun ⟨j, h⟩ => by
    cases j with
    | zero => exact hk _ _ h
    | succ j => exact h⟩⟩) e
  exact (L.all r).2 ⟨0, hr⟩
omit hO in
theorem iterN_lim {R : Type} {F : Nat → (Env → Option R) → Env → Option R} {G : (Env → Option R) → Env → Option R} (h : Cont F G) :
    ∀ n e, Lim (fun j => iterN (F j) n e) (iterN G n e)
  | 0, _ => Lim.const none
  | n + 1, e => h (fun j => iterN (F j) n) (iterN G n) (iterN_lim h n) e
omit hO in
theorem iterN_up {R : Type} {F : (Env → Option R) → Env → Option R} (hm : ∀ (k k' : Env → Option R), (∀ e r, k e = some r → k' e = some r) → ∀ e r, F k e = some r → F k' e = some r) :
    ∀ n e r, iterN F n e = some r → iterN F (n + 1) e = some r
  | 0, _, _, h => by cases h
  | n + 1, e, r, h => hm _ _ (iterN_up hm n) e r h
omit hO in
theorem fixF_lim0 {R : Type} {F : (Env → Option R) → Env → Option R} (hm : ∀ (k k' : Env → Option R), (∀ e r, k e = some r → k' e = some r) → ∀ e r, F k e = some r → F k' e = some r) (e : Env) :
    Lim (fun n => iterN F n e) (fixF F e) := Lim.lub fun j r h => iterN_up hm j e r h
omit hO in
theorem fixF_eq {R : Type} {G : (Env → Option R) → Env → Option R} (h : Cont (fun _ => G) G) (e : Env) : fixF G e = G (fixF G) e := by
  have hm := h.mono
  have L := h (fun n => iterN G n) (fixF G) (fun e => fixF_lim0 hm e) e
  apply Option.ext
  intro r
  rw [(fixF_lim0 hm e).all r, L.all r]
  constructor
  · rintro ⟨n, hn⟩
    exact ⟨n, iterN_up hm n e r hn⟩
  · rintro ⟨n, hn⟩
    exact ⟨n + 1, hn⟩
omit hO in
theorem fixF_lim {R : Type} {F : Nat → (Env → Option R) → Env → Option R} {G : (Env → Option R) → Env → Option R} (h : Cont F G) (hm : ∀ j, Cont (fun _ => F j) (F j)) (hg : Cont (fun _ => G) G) (e : Env) :
    Lim (fun j => fixF (F j) e) (fixF G e) := by
  have hG : ∀ (k k' : Env → Option R), (∀ e r, k e = some r → k' e = some r) → ∀ e r, G k e = some r → G k' e = some r := hg.mono
  refine ⟨fun j r hr => ?_, fun r => ⟨fun hr => ?_, fun ⟨j, hr⟩ => ?_⟩⟩
  · obtain ⟨n, hn⟩ := ((fixF_lim0 (hm j).mono e).all r).1 hr
    exact ((fixF_lim0 (hm (j + 1)).mono e).all r).2 ⟨n, (iterN_lim h n e).up j r hn⟩
  · obtain ⟨n, hn⟩ := ((fixF_lim0 hG e).all r).1 hr
    obtain ⟨j, hj⟩ := ((iterN_lim h n e).all r).1 hn
    exact ⟨j, ((fixF_lim0 (hm j).mono e).all r).2 ⟨n, hj⟩⟩
  · obtain ⟨n, hn⟩ := ((fixF_lim0 (hm j).mono e).all r).1 hr
    exact ((fixF_lim0 hG e).all r).2 ⟨n, ((iterN_lim h n e).all r).2 ⟨j, hn⟩⟩
end

structure KsLim {R : Type} (ks : Nat → Ks R) (ks' : Ks R) : Prop where
  ex : ∀ id e, Lim (fun j => exitOf (ks j).exits id e) (exitOf ks'.exits id e)
  ret : ∀ e, Lim (fun j => (ks j).ret e) (ks'.ret e)
theorem KsLim.const {R : Type} (ks : Ks R) : KsLim (fun _ => ks) ks := ⟨fun _ _ => Lim.const _, fun _ => Lim.const _⟩
theorem KsLim.block {R : Type} {ks : Nat → Ks R} {ks' : Ks R} (h : KsLim ks ks') (id : Nat) {k : Nat → Env → Option R} {k' : Env → Option R} (hk : ∀ e, Lim (fun j => k j e) (k' e)) :
    KsLim (fun j => ⟨(id, k j) :: (ks j).exits, (ks j).ret⟩) ⟨(id, k') :: ks'.exits, ks'.ret⟩ :=
  ⟨fun i e => by
    simp only [exitOf]
    split
    · exact hk e
    · exact h.ex i e, h.ret⟩

theorem evalC_lim {R : Type} (σ : Sig) : ∀ (c : Code) {O : Nat → Fun Γ} {P : Fun Γ} (_ : ∀ n a, Lim (fun j => O j n a) (P n a)) (n : Nat) {ks : Nat → Ks R} {ks' : Ks R} (_ : KsLim ks ks')
    {k : Nat → Env → Option R} {k' : Env → Option R} (_ : ∀ e, Lim (fun j => k j e) (k' e)) (e : Env),
    Lim (fun j => evalC Γ (O j) σ c n (ks j) (k j) e) (evalC Γ P σ c n ks' k' e)
  | .skip, _, _, _, _, _, _, _, _, _, hk, e => hk e
  | .region id ops draw, _, _, hO, _, _, _, _, _, _, hk, e => by
    simp only [evalC]
    generalize ann σ (100000 + id) = z
    cases z with
    | some l =>
      refine enter_lim _ (fun e => ?_) e
      simp only [hold_eq]
      exact regK_lim hO σ id _ draw hk e
    | none => exact regK_lim hO σ id _ draw hk e
  | .seq a b, _, _, hO, n, _, _, hks, _, _, hk, e => evalC_lim σ a hO n hks (evalC_lim σ b hO n hks hk) e
  | .cond c a b, _, _, hO, n, _, _, hks, _, _, hk, e => M.run_lim hO (fun _ e => Lim.cond _ (evalC_lim σ a hO n hks hk e) (evalC_lim σ b hO n hks hk e)) _ e
  | .block id c, _, _, hO, _, _, _, hks, _, _, hk, e => evalC_lim σ c hO id (hks.block id hk) hk e
  | .loop c, _, _, hO, n, _, _, hks, _, _, _, e => by
    simp only [evalC]
    generalize ann σ n = z
    cases z with
    | some l =>
      refine enter_lim _ (fun e => fixF_lim ?_ ?_ ?_ e) e
      · exact fun k k' hk e => evalC_lim σ c hO n hks (enter_lim l hk) e
      · exact fun j k k' hk e => evalC_lim σ c (fun n a => Lim.const _) n (KsLim.const _) (enter_lim l hk) e
      · exact fun k k' hk e => evalC_lim σ c (fun n a => Lim.const _) n (KsLim.const _) (enter_lim l hk) e
    | none => exact Lim.const none
  | .exit id, _, _, _, _, _, _, hks, _, _, _, e => hks.ex id e
  | .ret, _, _, _, _, _, _, hks, _, _, _, e => hks.ret e
  | .rangeFunc .., _, _, _, _, _, _, _, _, _, _, _ => Lim.const none
  | .scope _, _, _, _, _, _, _, _, _, _, _, _ => Lim.const none
  | .label _, _, _, _, _, _, _, _, _, _, _, _ => Lim.const none
  | .goto _, _, _, _, _, _, _, _, _, _, _, _ => Lim.const none
  | .refuse _, _, _, _, _, _, _, _, _, _, _, _ => Lim.const none

theorem endRes_lim {R : Type} {O : Nat → Fun Γ} {P : Fun Γ} (hO : ∀ n a, Lim (fun j => O j n a) (P n a)) (rt : Bool) {f : Nat → List ((t : Ty) × t.den) → Env → Option R} {f' : List ((t : Ty) × t.den) → Env → Option R}
    (hf : ∀ ds e, Lim (fun j => f j ds e) (f' ds e)) : ∀ gs vs ds e, Lim (fun j => endRes (O j) rt (f j) gs vs ds e) (endRes P rt f' gs vs ds e)
  | [], [], ds, e => hf ds e
  | g :: gs, v :: vs, ds, e => M.run_lim hO (fun z e => endRes_lim hO rt hf gs vs _ e) _ e
  | [], _ :: _, _, _ => Lim.const none
  | _ :: _, [], _, _ => Lim.const none
theorem endBack_lim {R : Type} {O : Nat → Fun Γ} {P : Fun Γ} (hO : ∀ n a, Lim (fun j => O j n a) (P n a)) (rt : Bool) (f : List ((t : Ty) × t.den) → Option R) :
    ∀ gs i ds e, Lim (fun j => endBack (O j) rt f gs i ds e) (endBack P rt f gs i ds e)
  | [], _, _, _ => Lim.const _
  | g :: gs, i, ds, e => M.run_lim hO (fun z e => endBack_lim hO rt f gs (i + 1) _ e) _ e
theorem retK_lim {O : Nat → Fun Γ} {P : Fun Γ} (hO : ∀ n a, Lim (fun j => O j n a) (P n a)) (n : Nat) (σ : Sig) (e : Env) : Lim (fun j => retK Γ (O j) n σ e) (retK Γ P n σ e) :=
  endRes_lim hO _ (fun ds e => endBack_lim hO _ _ _ _ _ _) _ _ _ _

theorem evalF_lim {O : Nat → Fun Γ} {P : Fun Γ} (hO : ∀ n a, Lim (fun j => O j n a) (P n a)) (n : Nat) (a : (prodTy (Γ.insL n)).den) : Lim (fun j => evalF Γ (O j) n a) (evalF Γ P n a) := by
  unfold evalF
  split
  · exact Lim.const none
  · split
    · exact Lim.const none
    · rename_i σ _ _ c _
      exact Lim.bind (Lim.const _) fun e => evalC_lim σ c hO 0 (ks := fun j => ⟨[], retK Γ (O j) n σ⟩) (ks' := ⟨[], retK Γ P n σ⟩) ⟨fun _ _ => Lim.const none, retK_lim hO n σ⟩ (retK_lim hO n σ) e

/-- one more round of telling -/
noncomputable def tellF (Γ : Ctx) (X : Ext Γ) (O : Fun Γ) : Fun Γ := fun n a => if X.has n then X.f O n a else evalF Γ O n a
theorem tellF_lim (X : Ext Γ) {O : Nat → Fun Γ} {P : Fun Γ} (hO : ∀ n a, Lim (fun j => O j n a) (P n a)) (n : Nat) (a : (prodTy (Γ.insL n)).den) : Lim (fun j => tellF Γ X (O j) n a) (tellF Γ X P n a) := by
  unfold tellF
  by_cases h : X.has n = true
  · simp only [h, if_true]
    exact X.lim O P hO n a h
  · simp only [h]
    exact evalF_lim hO n a
theorem den_lim (X : Ext Γ) (n : Nat) (a : (prodTy (Γ.insL n)).den) : Lim (fun k => denN Γ X k n a) (den Γ X n a) := by
  have up : ∀ k n a r, denN Γ X k n a = some r → denN Γ X (k + 1) n a = some r := by
    intro k
    induction k with
    | zero => intro n a r h; cases h
    | succ k ih =>
      intro n a r h
      have L := tellF_lim X (O := fun j => if j = 0 then denN Γ X k else denN Γ X (k + 1)) (P := denN Γ X (k + 1)) (fun n a => ⟨fun j r h => by
          by_cases hj : j = 0
          · subst hj; simp at h ⊢; exact ih _ _ _ h
          · simp [hj] at h ⊢; exact h, fun r => ⟨fun h => ⟨1, by simp; exact h⟩, fun ⟨j, h⟩ => by
            by_cases hj : j = 0
            · subst hj; simp at h; exact ih _ _ _ h
            · simp [hj] at h; exact h⟩⟩) n a
      have h0 : tellF Γ X (denN Γ X k) n a = some r := h
      show tellF Γ X (denN Γ X (k + 1)) n a = some r
      exact (L.all r).2 ⟨0, by simpa using h0⟩
  exact Lim.lub fun j r h => up j n a r h
theorem den_tell (Γ : Ctx) (X : Ext Γ) (n : Nat) (a : (prodTy (Γ.insL n)).den) : den Γ X n a = tellF Γ X (den Γ X) n a := by
  have L := tellF_lim X (O := fun k => denN Γ X k) (P := den Γ X) (fun n a => den_lim X n a) n a
  have D := den_lim X n a
  apply Option.ext
  intro r
  rw [D.all r, L.all r]
  constructor
  · rintro ⟨k, hk⟩
    exact ⟨k, D.up k r hk⟩
  · rintro ⟨k, hk⟩
    exact ⟨k + 1, hk⟩
theorem den_eq (Γ : Ctx) (X : Ext Γ) (n : Nat) (h : X.has n = false) (a : (prodTy (Γ.insL n)).den) : den Γ X n a = evalF Γ (den Γ X) n a := by
  rw [den_tell]; unfold tellF; rw [h]; rfl
theorem den_ext (Γ : Ctx) (X : Ext Γ) (n : Nat) (h : X.has n = true) (a : (prodTy (Γ.insL n)).den) : den Γ X n a = X.f (den Γ X) n a := by
  rw [den_tell]; unfold tellF; rw [h]; rfl

theorem evalAt_eq {R : Type} (O : Fun Γ) (σ : Sig) : ∀ (c : Code) (p : List Nat) (n : Nat) (ks : Ks R) (k : Env → Option R) (e : Env),
    evalAt Γ O σ c p n ks k e = stepAt Γ O σ c p n ks k e
  | .seq a b, [], _, _, _, _ => by simp [evalAt, stepAt]
  | .seq a b, 0 :: p, n, ks, k, e => evalAt_eq O σ a p n ks _ e
  | .seq a b, 1 :: p, n, ks, k, e => evalAt_eq O σ b p n ks k e
  | .seq a b, (_ + 2) :: p, _, _, _, _ => by simp [evalAt, stepAt]
  | .cond _ a _, [], _, _, _, _ => by simp [evalAt, stepAt]
  | .cond _ a _, 0 :: p, n, ks, k, e => evalAt_eq O σ a p n ks k e
  | .cond _ _ b, 1 :: p, n, ks, k, e => evalAt_eq O σ b p n ks k e
  | .cond _ _ _, (_ + 2) :: p, _, _, _, _ => by simp [evalAt, stepAt]
  | .block id c, [], _, _, _, _ => by simp [evalAt, stepAt]
  | .block id c, 0 :: p, n, ks, k, e => evalAt_eq O σ c p id _ k e
  | .block id c, (_ + 1) :: p, _, _, _, _ => by simp [evalAt, stepAt]
  | .loop c, 0 :: p, n, ks, k, e => evalAt_eq O σ c p n ks _ e
  | .loop c, (_ + 1) :: p, _, _, _, _ => by simp [evalAt, stepAt]
  | .region id ops draw, [], n, ks, k, e => by simp [evalAt, stepAt, hold_eq]
  | .region id ops draw, _ :: _, n, ks, k, e => by simp [evalAt, stepAt]
  | .loop c, [], n, ks, k, e => by
    simp only [evalAt, stepAt]
    generalize ann σ n = z
    cases z with
    | some l =>
      refine fixF_eq (fun k k' hk e => ?_) e
      exact evalC_lim σ c (fun n a => Lim.const _) n (KsLim.const _) (enter_lim l hk) e
    | none => rfl
  | .skip, p, _, _, _, _ => by cases p <;> simp [evalAt, stepAt]
  | .exit _, p, _, _, _, _ => by cases p <;> simp [evalAt, stepAt]
  | .ret, p, _, _, _, _ => by cases p <;> simp [evalAt, stepAt]
  | .rangeFunc .., p, _, _, _, _ => by cases p <;> simp [evalAt, stepAt]
  | .scope _, p, _, _, _, _ => by cases p <;> simp [evalAt, stepAt]
  | .label _, p, _, _, _, _ => by cases p <;> simp [evalAt, stepAt]
  | .goto _, p, _, _, _, _ => by cases p <;> simp [evalAt, stepAt]
  | .refuse _, p, _, _, _, _ => by cases p <;> simp [evalAt, stepAt]
theorem at_eq (Γ : Ctx) (X : Ext Γ) (n : Nat) (p : List Nat) (e : Env) : atF Γ (den Γ X) n p e = stepF Γ (den Γ X) n p e := by
  unfold atF stepF
  split
  · rfl
  · split
    · rfl
    · exact evalAt_eq _ _ _ _ _ _ _ _

abbrev w64 (n : Int) : Int := IntKind.i64.wrap n
abbrev bits (op : BinOp) (k : IntKind) (x y : Int) : Int := (bitsD op k x y).getD 0
abbrev imax (a b : Int) : Int := if b > a then b else a
abbrev imin (a b : Int) : Int := if b < a then b else a
end Go.Den
/-
  Data in memory: how typed data lie in a world's blocks, and who owns which block; what leaves them as they are.
-/
namespace Go.Den
open Go
set_option linter.unusedVariables false
set_option linter.unusedSimpArgs false

/-- where the rows of some data lie -/
inductive G where
  | lf
  | pr (a b : G)
  | hd (a : Option Addr) (n c : Nat) (k : Nat → G)
def G.fst : G → G
  | .pr a _ => a
  | _ => .lf
def G.snd : G → G
  | .pr _ b => b
  | _ => .lf
def G.addr : G → Option Addr
  | .hd a _ _ _ => a
  | _ => none
def G.len : G → Nat
  | .hd _ n _ _ => n
  | _ => 0
def G.cap : G → Nat
  | .hd _ _ c _ => c
  | _ => 0
def G.kid : G → Nat → G
  | .hd _ _ _ k => k
  | _ => fun _ => .lf

theorem G.fst_pr (a b : G) : (G.pr a b).fst = a := rfl
theorem G.snd_pr (a b : G) : (G.pr a b).snd = b := rfl
theorem G.addr_hd (a : Option Addr) (n c : Nat) (k : Nat → G) : (G.hd a n c k).addr = a := rfl
theorem G.len_hd (a : Option Addr) (n c : Nat) (k : Nat → G) : (G.hd a n c k).len = n := rfl
theorem G.cap_hd (a : Option Addr) (n c : Nat) (k : Nat → G) : (G.hd a n c k).cap = c := rfl
theorem G.kid_hd (a : Option Addr) (n c : Nat) (k : Nat → G) : (G.hd a n c k).kid = k := rfl

def cells : (t : Ty) → t.den → G → List Value
  | .int k, x, _ => [.int k x]
  | .bool, b, _ => [.bool b]
  | .str, s, _ => [.string s]
  | .unit, _, _ => []
  | .one a, x, g => cells a x g
  | .cons a b, x, g => cells a x.1 g.fst ++ cells b x.2 g.snd
  | .sl _, _, g => [.slice g.addr g.len g.cap]
theorem cells_len : ∀ (t : Ty) (x : t.den) (g : G), (cells t x g).length = t.size
  | .int _, _, _ => rfl
  | .bool, _, _ => rfl
  | .str, _, _ => rfl
  | .unit, _, _ => rfl
  | .one a, x, g => cells_len a x g
  | .cons a b, x, g => by simp [cells, Ty.size, cells_len a, cells_len b]
  | .sl _, _, _ => rfl
theorem cells_one : ∀ (t : Ty) (x : t.den) (g : G), ∀ v ∈ cells t x g, v.oneCell' = true
  | .int _, _, _ => by simp [cells, Value.oneCell']
  | .bool, _, _ => by simp [cells, Value.oneCell']
  | .str, _, _ => by simp [cells, Value.oneCell']
  | .unit, _, _ => by simp [cells]
  | .one a, x, g => cells_one a x g
  | .cons a b, x, g => by
    intro v hv
    rcases List.mem_append.1 hv with h | h
    · exact cells_one a _ _ v h
    · exact cells_one b _ _ v h
  | .sl _, _, _ => by simp [cells, Value.oneCell']

theorem Addr.add_add' (a : Addr) (i j : Nat) : (a.add i).add j = a.add (i + j) := by
  unfold Addr.add
  by_cases hi : i = 0
  · subst hi; simp
  · by_cases hj : j = 0
    · subst hj; simp [hi]
    · simp [hi, hj, Nat.add_assoc]
theorem Addr.add_block (a : Addr) (i : Nat) : (a.add i).block = a.block := by
  unfold Addr.add; split <;> rfl
theorem Addr.add_zero' (a : Addr) : a.add 0 = a := by simp [Addr.add]
theorem Addr.add_mk (b o i : Nat) : (⟨b, o, none⟩ : Addr).add i = ⟨b, o + i, none⟩ := by
  unfold Addr.add
  by_cases h : i = 0
  · subst h; simp
  · simp [h]

/-- the cells lie there -/
def At (w : World) (a : Option Addr) (o : Nat) (cs : List Value) : Prop := ∀ j v, cs[j]? = some v → ∃ d, a = some d ∧ w.cell? (d.add (o + j)) = some v
theorem At.frame {w w' : World} {a : Option Addr} {o : Nat} {cs : List Value} (h : At w a o cs) (hb : ∀ d, a = some d → w'.heap[d.block]? = w.heap[d.block]?) : At w' a o cs := by
  intro j v hj
  obtain ⟨d, hd, hv⟩ := h j v hj
  refine ⟨d, hd, ?_⟩
  rw [World.cell?_of_block (w := w)]
  · exact hv
  · rw [Addr.add_block]; exact hb d hd
theorem At.add {w : World} {a : Option Addr} {o k : Nat} {cs : List Value} : At w (a.map (·.add k)) o cs ↔ At w a (k + o) cs := by
  constructor
  · intro h j v hj
    obtain ⟨d, hd, hv⟩ := h j v hj
    cases a with
    | none => cases hd
    | some a =>
      simp only [Option.map_some, Option.some.injEq] at hd
      subst hd
      exact ⟨a, rfl, by rw [Addr.add_add'] at hv; rw [Nat.add_assoc]; exact hv⟩
  · intro h j v hj
    obtain ⟨d, hd, hv⟩ := h j v hj
    subst hd
    exact ⟨d.add k, rfl, by rw [Addr.add_add']; rw [Nat.add_assoc] at hv; exact hv⟩
theorem At.append {w : World} {a : Option Addr} {o : Nat} {cs ds : List Value} : At w a o (cs ++ ds) ↔ At w a o cs ∧ At w a (o + cs.length) ds := by
  constructor
  · intro h
    refine ⟨fun j v hj => h j v ?_, fun j v hj => ?_⟩
    · rw [List.getElem?_append_left]; exact hj
      exact (List.getElem?_eq_some_iff.1 hj).1
    · obtain ⟨d, hd, hv⟩ := h (cs.length + j) v (by rw [List.getElem?_append_right (by omega)]; simpa using hj)
      exact ⟨d, hd, by rw [Nat.add_assoc]; exact hv⟩
  · rintro ⟨h1, h2⟩ j v hj
    by_cases hl : j < cs.length
    · rw [List.getElem?_append_left hl] at hj; exact h1 j v hj
    · rw [List.getElem?_append_right (by omega)] at hj
      obtain ⟨d, hd, hv⟩ := h2 _ v hj
      refine ⟨d, hd, ?_⟩
      have : o + cs.length + (j - cs.length) = o + j := by omega
      rw [this] at hv; exact hv

/-- a row of one's own: a block that nobody else knows of, with room for all that may be appended in place -/
def Row (w : World) (sz : Nat) (g : G) : Prop :=
  (g.addr = none ∧ g.len = 0 ∧ g.cap = 0) ∨
  ∃ b o C te, g.addr = some ⟨b, o, none⟩ ∧ w.heap[b]? = some (.cells C te (0, 0)) ∧ o + g.cap * sz ≤ C.size ∧ g.len ≤ g.cap ∧ g.cap ≤ maxLen
theorem Row.frame {w w' : World} {sz : Nat} {g : G} (h : Row w sz g) (hb : ∀ d, g.addr = some d → w'.heap[d.block]? = w.heap[d.block]?) : Row w' sz g := by
  rcases h with h | ⟨b, o, C, te, ha, hC, h1, h2, h3⟩
  · exact .inl h
  · exact .inr ⟨b, o, C, te, ha, by rw [hb _ ha]; exact hC, h1, h2, h3⟩
theorem Row.le {w : World} {sz : Nat} {g : G} (h : Row w sz g) : g.len ≤ g.cap := by
  rcases h with ⟨_, h1, h2⟩ | ⟨_, _, _, _, _, _, _, h, _⟩
  · omega
  · exact h

def Own : Ty → Md → G → Nat → Prop
  | .one a, m, g, b => Own a m g b
  | .cons x y, m, g, b => Own x m.fst g.fst b ∨ Own y m.snd g.snd b
  | .sl e, m, g, b => match m with
    | .own me => (∃ a, g.addr = some a ∧ a.block = b) ∨ ∃ i, i < g.len ∧ Own e me (g.kid i) b
    | _ => False
  | _, _, _, _ => False
def Sep : Ty → Md → G → Prop
  | .one a, m, g => Sep a m g
  | .cons x y, m, g => Sep x m.fst g.fst ∧ Sep y m.snd g.snd ∧ ∀ b, Own x m.fst g.fst b → ¬ Own y m.snd g.snd b
  | .sl e, m, g => match m with
    | .own me => (∀ i, i < g.len → Sep e me (g.kid i)) ∧ (∀ i j b, i < g.len → j < g.len → i ≠ j → Own e me (g.kid i) b → ¬ Own e me (g.kid j) b) ∧
        (∀ a i, g.addr = some a → i < g.len → ¬ Own e me (g.kid i) a.block)
    | _ => True
  | _, _, _ => True
/-- the data are what lies there; I: the blocks that nobody writes any more, F: those that are younger than the call or were handed to it -/
def Mem (w : World) (I F : Nat → Prop) : (t : Ty) → Md → t.den → G → Prop
  | .one a, m, x, g => Mem w I F a m x g
  | .cons a b, m, x, g => Mem w I F a m.fst x.1 g.fst ∧ Mem w I F b m.snd x.2 g.snd
  | .sl e, m, x, g => g.len = List.length x ∧ match m with
    | .own me => Row w e.size g ∧ ∀ i, i < g.len → At w g.addr (i * e.size) (cells e (List.getD x i e.dflt) (g.kid i)) ∧ Mem w I F e me (List.getD x i e.dflt) (g.kid i)
    | .sh o => (g.len ≤ g.cap ∧ (∀ d, g.addr = some d → 0 < g.len → I d.block ∧ (o = false → F d.block)) ∧ (o = false → Row w e.size g ∧ ∀ d, g.addr = some d → I d.block ∧ F d.block)) ∧ ∀ i, i < g.len → At w g.addr (i * e.size) (cells e (List.getD x i e.dflt) (g.kid i)) ∧ Mem w I F e (.sh o) (List.getD x i e.dflt) (g.kid i)
    | _ => True
  | _, _, _, _ => True

section
variable {w w' : World} {I I' F F' : Nat → Prop}
theorem Mem.frame : ∀ {t : Ty} {m : Md} {x : t.den} {g : G}, Mem w I F t m x g → (∀ b, Own t m g b ∨ I b → w'.heap[b]? = w.heap[b]?) → Mem w' I F t m x g
  | .int _, _, _, _, _, _ => trivial
  | .bool, _, _, _, _, _ => trivial
  | .str, _, _, _, _, _ => trivial
  | .unit, _, _, _, _, _ => trivial
  | .one a, m, x, g, h, hb => Mem.frame (t := a) h hb
  | .cons a b, m, x, g, h, hb => ⟨Mem.frame h.1 fun c hc => hb c (hc.imp .inl id), Mem.frame h.2 fun c hc => hb c (hc.imp .inr id)⟩
  | .sl e, m, x, g, h, hb => by
    refine ⟨h.1, ?_⟩
    have h2 := h.2
    cases m with
    | own me =>
      refine ⟨h2.1.frame fun d hd => hb _ (.inl (.inl ⟨d, hd, rfl⟩)), fun i hi => ?_⟩
      obtain ⟨h3, h4⟩ := h2.2 i hi
      exact ⟨h3.frame fun d hd => hb _ (.inl (.inl ⟨d, hd, rfl⟩)), Mem.frame h4 fun c hc => hb c (hc.imp (fun k => .inr ⟨i, hi, k⟩) id)⟩
    | sh o =>
      refine ⟨⟨h2.1.1, h2.1.2.1, fun ho => ⟨(h2.1.2.2 ho).1.frame fun d hd => hb _ (.inr ((h2.1.2.2 ho).2 d hd).1), (h2.1.2.2 ho).2⟩⟩, fun i hi => ?_⟩
      obtain ⟨h3, h4⟩ := h2.2 i hi
      refine ⟨h3.frame fun d hd => hb _ (.inr (h2.1.2.1 d hd (by omega)).1), Mem.frame h4 fun c hc => hb c (.inr ?_)⟩
      rcases hc with hc | hc
      · exact absurd hc (by
          have : ∀ (t : Ty) (g : G) (o : Bool) (b : Nat), ¬ Own t (.sh o) g b := by
            intro t
            induction t with
            | one a ih => exact fun g o b => ih g o b
            | cons a b iha ihb => exact fun g o c hc => hc.elim (iha _ _ _) (ihb _ _ _)
            | _ => exact fun _ _ _ hc => hc
          exact this e _ o c)
      · exact hc
    | pr a b => trivial
    | gone => trivial
theorem Own.sh : ∀ (t : Ty) (g : G) (o : Bool) (b : Nat), ¬ Own t (.sh o) g b := by
  intro t
  induction t with
  | one a ih => exact fun g o b => ih g o b
  | cons a b iha ihb => exact fun g o c hc => hc.elim (iha _ _ _) (ihb _ _ _)
  | _ => exact fun _ _ _ hc => hc
theorem Own.gone : ∀ (t : Ty) (g : G) (b : Nat), ¬ Own t .gone g b := by
  intro t
  induction t with
  | one a ih => exact fun g b => ih g b
  | cons a b iha ihb => exact fun g c hc => hc.elim (iha _ _) (ihb _ _)
  | _ => exact fun _ _ hc => hc
theorem Sep.sh : ∀ (t : Ty) (g : G) (o : Bool), Sep t (.sh o) g := by
  intro t
  induction t with
  | one a ih => exact fun g o => ih g o
  | cons a b iha ihb => exact fun g o => ⟨iha _ _, ihb _ _, fun c hc => absurd hc (Own.sh _ _ _ _)⟩
  | _ => exact fun _ _ => trivial
theorem Sep.gone : ∀ (t : Ty) (g : G), Sep t .gone g := by
  intro t
  induction t with
  | one a ih => exact fun g => ih g
  | cons a b iha ihb => exact fun g => ⟨iha _, ihb _, fun c hc => absurd hc (Own.gone _ _ _)⟩
  | _ => exact fun _ => trivial
theorem Mem.mono : ∀ {t : Ty} {m : Md} {x : t.den} {g : G}, Mem w I F t m x g → (∀ b, I b → I' b) → (∀ b, I b → F b → F' b) → Mem w I' F' t m x g
  | .int _, _, _, _, _, _, _ => trivial
  | .bool, _, _, _, _, _, _ => trivial
  | .str, _, _, _, _, _, _ => trivial
  | .unit, _, _, _, _, _, _ => trivial
  | .one a, m, x, g, h, hI, hF => Mem.mono (t := a) h hI hF
  | .cons a b, m, x, g, h, hI, hF => ⟨Mem.mono h.1 hI hF, Mem.mono h.2 hI hF⟩
  | .sl e, m, x, g, h, hI, hF => by
    refine ⟨h.1, ?_⟩
    have h2 := h.2
    cases m with
    | own me => exact ⟨h2.1, fun i hi => ⟨(h2.2 i hi).1, Mem.mono (h2.2 i hi).2 hI hF⟩⟩
    | sh o => exact ⟨⟨h2.1.1, fun d hd hl => ⟨hI _ (h2.1.2.1 d hd hl).1, fun ho => hF _ (h2.1.2.1 d hd hl).1 ((h2.1.2.1 d hd hl).2 ho)⟩, fun ho => ⟨(h2.1.2.2 ho).1, fun d hd => ⟨hI _ ((h2.1.2.2 ho).2 d hd).1, hF _ ((h2.1.2.2 ho).2 d hd).1 ((h2.1.2.2 ho).2 d hd).2⟩⟩⟩, fun i hi => ⟨(h2.2 i hi).1, Mem.mono (h2.2 i hi).2 hI hF⟩⟩
    | pr a b => trivial
    | gone => trivial
/-- all of it may be read by all -/
theorem Mem.view : ∀ {t : Ty} {m : Md} {x : t.den} {g : G} {o : Bool}, Mem w I F t m x g → t.fits m = true → (t.old m = true → o = true) → (∀ b, I b → I' b) → (∀ b, Own t m g b → I' b ∧ (o = false → F b)) → Mem w I' F t (.sh o) x g
  | .int _, _, _, _, _, _, _, _, _, _ => trivial
  | .bool, _, _, _, _, _, _, _, _, _ => trivial
  | .str, _, _, _, _, _, _, _, _, _ => trivial
  | .unit, _, _, _, _, _, _, _, _, _ => trivial
  | .one a, m, x, g, o, h, hf, ho, hI, hO => Mem.view (t := a) h hf ho hI hO
  | .cons a b, m, x, g, o, h, hf, ho, hI, hO => by
    simp only [Ty.fits, Bool.and_eq_true] at hf
    simp only [Ty.old, Bool.or_eq_true] at ho
    exact ⟨Mem.view h.1 hf.1 (fun k => ho (.inl k)) hI fun b hb => hO b (.inl hb), Mem.view h.2 hf.2 (fun k => ho (.inr k)) hI fun b hb => hO b (.inr hb)⟩
  | .sl e, m, x, g, o, h, hf, ho, hI, hO => by
    refine ⟨h.1, ?_⟩
    have h2 := h.2
    cases m with
    | own me =>
      simp only [Ty.fits] at hf
      simp only [Ty.old] at ho
      exact ⟨⟨h2.1.le, fun d hd _ => ⟨(hO _ (.inl ⟨d, hd, rfl⟩)).1, fun k => (hO _ (.inl ⟨d, hd, rfl⟩)).2 k⟩, fun k => ⟨h2.1, fun d hd => ⟨(hO _ (.inl ⟨d, hd, rfl⟩)).1, (hO _ (.inl ⟨d, hd, rfl⟩)).2 k⟩⟩⟩,
        fun i hi => ⟨(h2.2 i hi).1, Mem.view (h2.2 i hi).2 hf ho hI fun b hb => hO b (.inr ⟨i, hi, hb⟩)⟩⟩
    | sh o' =>
      simp only [Ty.old] at ho
      have hoo : ∀ k : o = false, o' = false := fun k => by
        cases o' with
        | false => rfl
        | true => rw [ho rfl] at k; cases k
      have ff : ∀ (t : Ty) (o : Bool), t.fits (.sh o) = true := by
        intro t
        induction t with
        | one a ih => exact fun o => ih o
        | cons a b iha ihb => intro o; simp [Ty.fits, Md.fst, Md.snd, iha, ihb]
        | _ => exact fun _ => rfl
      have oo : ∀ (t : Ty) (o : Bool), t.old (.sh o) = true → o = true := by
        intro t
        induction t with
        | one a ih => exact fun o => ih o
        | cons a b iha ihb =>
          intro o h
          simp only [Ty.old, Md.fst, Md.snd, Bool.or_eq_true] at h
          exact h.elim (iha o) (ihb o)
        | sl e _ => exact fun o h => h
        | _ => exact fun _ h => by cases h
      exact ⟨⟨h2.1.1, fun d hd hl => ⟨hI _ (h2.1.2.1 d hd hl).1, fun k => (h2.1.2.1 d hd hl).2 (hoo k)⟩, fun k => ⟨(h2.1.2.2 (hoo k)).1, fun d hd => ⟨hI _ ((h2.1.2.2 (hoo k)).2 d hd).1, ((h2.1.2.2 (hoo k)).2 d hd).2⟩⟩⟩,
        fun i hi => ⟨(h2.2 i hi).1, Mem.view (h2.2 i hi).2 (ff e o') (fun k => ho (oo e o' k)) hI fun b hb => absurd hb (Own.sh _ _ _ _)⟩⟩
    | pr a b => cases hf
    | gone => cases hf
theorem Own.coer : ∀ {t : Ty} {m m' : Md} {g : G} {b : Nat}, t.coer m m' = true → Own t m' g b → Own t m g b
  | .int _, _, _, _, _, _, h => h
  | .bool, _, _, _, _, _, h => h
  | .str, _, _, _, _, _, h => h
  | .unit, _, _, _, _, _, h => h
  | .one a, m, m', g, b, hc, h => Own.coer (t := a) hc h
  | .cons x y, m, m', g, b, hc, h => by
    simp only [Ty.coer, Bool.and_eq_true] at hc
    exact h.imp (Own.coer hc.1) (Own.coer hc.2)
  | .sl e, m, m', g, b, hc, h => by
    cases m' with
    | own me' =>
      cases m with
      | own me => exact h.imp id fun ⟨i, hi, k⟩ => ⟨i, hi, Own.coer hc k⟩
      | _ => cases hc
    | _ => exact h.elim
theorem Sep.coer : ∀ {t : Ty} {m m' : Md} {g : G}, t.coer m m' = true → Sep t m g → Sep t m' g
  | .int _, _, _, _, _, h => h
  | .bool, _, _, _, _, h => h
  | .str, _, _, _, _, h => h
  | .unit, _, _, _, _, h => h
  | .one a, m, m', g, hc, h => Sep.coer (t := a) hc h
  | .cons x y, m, m', g, hc, h => by
    simp only [Ty.coer, Bool.and_eq_true] at hc
    exact ⟨Sep.coer hc.1 h.1, Sep.coer hc.2 h.2.1, fun b h1 h2 => h.2.2 b (Own.coer hc.1 h1) (Own.coer hc.2 h2)⟩
  | .sl e, m, m', g, hc, h => by
    cases m' with
    | own me' =>
      cases m with
      | own me =>
        exact ⟨fun i hi => Sep.coer hc (h.1 i hi), fun i j b hi hj hij h1 h2 => h.2.1 i j b hi hj hij (Own.coer hc h1) (Own.coer hc h2), fun a i ha hi h1 => h.2.2 a i ha hi (Own.coer hc h1)⟩
      | _ => cases hc
    | _ => trivial
/-- a mode taken for a weaker one; what is not owned any more may be read by all -/
theorem Mem.coer : ∀ {t : Ty} {m m' : Md} {x : t.den} {g : G}, t.coer m m' = true → Mem w I F t m x g → Sep t m g → (∀ b, I b → I' b) → (∀ b, Own t m g b → F b) → (∀ b, Own t m g b → ¬ Own t m' g b → I' b) → Mem w I' F t m' x g
  | .int _, _, _, _, _, _, _, _, _, _, _ => trivial
  | .bool, _, _, _, _, _, _, _, _, _, _ => trivial
  | .str, _, _, _, _, _, _, _, _, _, _ => trivial
  | .unit, _, _, _, _, _, _, _, _, _, _ => trivial
  | .one a, m, m', x, g, hc, h, hs, hI, hO, hN => Mem.coer (t := a) hc h hs hI hO hN
  | .cons a b, m, m', x, g, hc, h, hs, hI, hO, hN => by
    simp only [Ty.coer, Bool.and_eq_true] at hc
    exact ⟨Mem.coer hc.1 h.1 hs.1 hI (fun b hb => hO b (.inl hb)) fun b h1 h2 => hN b (.inl h1) fun h3 => h3.elim h2 fun h3 => hs.2.2 b h1 (Own.coer hc.2 h3),
      Mem.coer hc.2 h.2 hs.2.1 hI (fun b hb => hO b (.inr hb)) fun b h1 h2 => hN b (.inr h1) fun h3 => h3.elim (fun h3 => hs.2.2 b (Own.coer hc.1 h3) h1) h2⟩
  | .sl e, m, m', x, g, hc, h, hs, hI, hO, hN => by
    cases m' with
    | gone => exact ⟨h.1, trivial⟩
    | pr a b => exact ⟨h.1, trivial⟩
    | own me' =>
      cases m with
      | own me =>
        refine ⟨h.1, h.2.1, fun i hi => ⟨(h.2.2 i hi).1, Mem.coer hc (h.2.2 i hi).2 (hs.1 i hi) hI (fun b hb => hO b (.inr ⟨i, hi, hb⟩)) fun b h1 h2 => hN b (.inr ⟨i, hi, h1⟩) ?_⟩⟩
        rintro (⟨a, ha, rfl⟩ | ⟨j, hj, h3⟩)
        · exact hs.2.2 a i ha hi h1
        · by_cases hij : i = j
          · subst hij; exact h2 h3
          · exact hs.2.1 i j b hi hj hij h1 (Own.coer hc h3)
      | _ => cases hc
    | sh o =>
      refine Mem.view (o := o) h ?_ ?_ hI fun b hb => ⟨hN b hb fun k => k, fun _ => hO b hb⟩
      · cases m with
        | own me => simp only [Ty.coer, Bool.and_eq_true] at hc; exact hc.1
        | sh o' => rfl
        | _ => cases hc
      · cases m with
        | own me =>
          simp only [Ty.coer, Bool.and_eq_true, Bool.or_eq_true, Bool.not_eq_true'] at hc
          intro k
          rcases hc.2 with h | h
          · simp only [Ty.old] at k; rw [k] at h; cases h
          · exact h
        | sh o' =>
          intro k
          simp only [Ty.old] at k
          subst k
          simpa [Ty.coer] using hc
        | _ => cases hc
end
end Go.Den
/-
  Parts of data in memory: where they lie, who owns them, and what is left when one part is replaced.
-/
namespace Go.Den
open Go
set_option linter.unusedVariables false
set_option linter.unusedSimpArgs false

def gsub : Ty → G → List Step → G
  | _, g, [] => g
  | .one a, g, .l :: p => gsub a g p
  | .cons a _, g, .l :: p => gsub a g.fst p
  | .cons _ b, g, .r :: p => gsub b g.snd p
  | .sl e, g, .at i :: p => gsub e (g.kid i) p
  | _, g, _ => g
def gput : Ty → G → List Step → G → G
  | _, _, [], h => h
  | .one a, g, .l :: p, h => gput a g p h
  | .cons a _, g, .l :: p, h => .pr (gput a g.fst p h) g.snd
  | .cons _ b, g, .r :: p, h => .pr g.fst (gput b g.snd p h)
  | .sl e, g, .at i :: p, h => .hd g.addr g.len g.cap fun j => if j = i then gput e (g.kid i) p h else g.kid j
  | _, g, _, _ => g
def okP : Ty → G → List Step → Prop
  | _, _, [] => True
  | .one a, g, .l :: p => okP a g p
  | .cons a _, g, .l :: p => okP a g.fst p
  | .cons _ b, g, .r :: p => okP b g.snd p
  | .sl e, g, .at i :: p => i < g.len ∧ okP e (g.kid i) p
  | _, _, _ => False
def place : Ty → G → Option Addr → List Step → Option Addr
  | _, _, c, [] => c
  | .one a, g, c, .l :: p => place a g c p
  | .cons a _, g, c, .l :: p => place a g.fst c p
  | .cons a b, g, c, .r :: p => place b g.snd (c.map (·.add a.size)) p
  | .sl e, g, _, .at i :: p => place e (g.kid i) (g.addr.map (·.add (i * e.size))) p
  | _, _, _, _ => none
def rest : Ty → Md → G → List Step → Nat → Prop
  | _, _, _, [], _ => False
  | .one a, m, g, .l :: p, b => rest a m g p b
  | .cons x y, m, g, .l :: p, b => rest x m.fst g.fst p b ∨ Own y m.snd g.snd b
  | .cons x y, m, g, .r :: p, b => Own x m.fst g.fst b ∨ rest y m.snd g.snd p b
  | .sl e, m, g, .at i :: p, b => match m with
    | .own me => (∃ a, g.addr = some a ∧ a.block = b) ∨ (∃ j, j < g.len ∧ j ≠ i ∧ Own e me (g.kid j) b) ∨ rest e me (g.kid i) p b
    | _ => False
  | _, _, _, _, _ => False
def MdR : Ty → Md → List Step → Md → Md → Prop
  | _, _, [], m', N' => N' = m'
  | .one a, N, .l :: p, m', N' => MdR a N p m' N'
  | .cons a _, N, .l :: p, m', N' => MdR a N.fst p m' N'.fst ∧ N'.snd = N.snd
  | .cons _ b, N, .r :: p, m', N' => N'.fst = N.fst ∧ MdR b N.snd p m' N'.snd
  | .sl e, N, .at _ :: p, m', N' => ∃ me, N = .own me ∧ N' = .own me ∧ MdR e me p m' me
  | _, _, _, _, _ => False
def ofs : Ty → List Step → Nat
  | .one a, .l :: p => ofs a p
  | .cons a _, .l :: p => ofs a p
  | .cons a b, .r :: p => a.size + ofs b p
  | _, _ => 0

/-- the part at the end of a way -/
inductive Way : (T : Ty) → Md → T.den → G → List Step → (t : Ty) → Md → t.den → G → Prop
  | nil {T : Ty} {N : Md} {X : T.den} {g : G} : Way T N X g [] T N X g
  | one {a : Ty} {N : Md} {X : a.den} {g : G} {p : List Step} {t : Ty} {m : Md} {x : t.den} {h : G} : Way a N X g p t m x h → Way (.one a) N X g (.l :: p) t m x h
  | l {a b : Ty} {N : Md} {X : (Ty.cons a b).den} {g : G} {p : List Step} {t : Ty} {m : Md} {x : t.den} {h : G} : Way a N.fst X.1 g.fst p t m x h → Way (.cons a b) N X g (.l :: p) t m x h
  | r {a b : Ty} {N : Md} {X : (Ty.cons a b).den} {g : G} {p : List Step} {t : Ty} {m : Md} {x : t.den} {h : G} : Way b N.snd X.2 g.snd p t m x h → Way (.cons a b) N X g (.r :: p) t m x h
  | own {e : Ty} {me : Md} {X : (Ty.sl e).den} {g : G} {i : Nat} {p : List Step} {t : Ty} {m : Md} {x : t.den} {h : G} : i < g.len → Way e me (List.getD X i e.dflt) (g.kid i) p t m x h → Way (.sl e) (.own me) X g (.at i :: p) t m x h
  | sh {e : Ty} {o : Bool} {X : (Ty.sl e).den} {g : G} {i : Nat} {p : List Step} {t : Ty} {m : Md} {x : t.den} {h : G} : i < g.len → Way e (.sh o) (List.getD X i e.dflt) (g.kid i) p t m x h → Way (.sl e) (.sh o) X g (.at i :: p) t m x h

theorem way : ∀ {T : Ty} {N : Md} {X : T.den} {g : G} {p : List Step} {z : Sub}, sub T N X p = some z → okP T g p → Way T N X g p z.t z.m z.x (gsub T g p)
  | T, N, X, g, [], z, hs, hp => by
    have : z = ⟨T, N, X⟩ := by cases T <;> (simp only [sub, Option.some.injEq] at hs; exact hs.symm)
    subst this
    cases T <;> exact .nil
  | .one a, N, X, g, .l :: p, z, hs, hp => .one (way (T := a) hs hp)
  | .cons a b, N, X, g, .l :: p, z, hs, hp => .l (way (T := a) hs hp)
  | .cons a b, N, X, g, .r :: p, z, hs, hp => .r (way (T := b) hs hp)
  | .sl e, N, X, g, .at i :: p, z, hs, hp => by
    cases N with
    | own me => exact .own hp.1 (way hs hp.2)
    | sh o => exact .sh hp.1 (way hs hp.2)
    | pr a b => cases hs
    | gone => cases hs
  | .int _, _, _, _, _ :: _, _, hs, _ => by simp [sub] at hs
  | .bool, _, _, _, _ :: _, _, hs, _ => by simp [sub] at hs
  | .str, _, _, _, _ :: _, _, hs, _ => by simp [sub] at hs
  | .unit, _, _, _, _ :: _, _, hs, _ => by simp [sub] at hs
  | .one _, _, _, _, .r :: _, _, hs, _ => by cases hs
  | .one _, _, _, _, .at _ :: _, _, hs, _ => by cases hs
  | .cons _ _, _, _, _, .at _ :: _, _, hs, _ => by cases hs
  | .sl _, _, _, _, .l :: _, _, hs, _ => by cases hs
  | .sl _, _, _, _, .r :: _, _, hs, _ => by cases hs

section
variable {w w' : World} {I F : Nat → Prop} {T : Ty} {N : Md} {X : T.den} {g : G} {p : List Step} {t : Ty} {m : Md} {x : t.den} {h : G}
theorem Way.ok (W : Way T N X g p t m x h) : okP T g p ∧ gsub T g p = h ∧ sub T N X p = some ⟨t, m, x⟩ := by
  induction W with
  | @nil T N X g => cases T <;> exact ⟨trivial, rfl, rfl⟩
  | one _ ih => exact ih
  | l _ ih => exact ih
  | r _ ih => exact ih
  | own hi _ ih => exact ⟨⟨hi, ih.1⟩, ih.2⟩
  | sh hi _ ih => exact ⟨⟨hi, ih.1⟩, ih.2⟩
theorem Way.mem (W : Way T N X g p t m x h) (M : Mem w I F T N X g) : Mem w I F t m x h := by
  induction W with
  | nil => exact M
  | one _ ih => exact ih M
  | l _ ih => exact ih M.1
  | r _ ih => exact ih M.2
  | own hi _ ih => exact ih (M.2.2 _ hi).2
  | sh hi _ ih => exact ih (M.2.2 _ hi).2
theorem Way.own_iff (W : Way T N X g p t m x h) (b : Nat) : Own T N g b ↔ rest T N g p b ∨ Own t m h b := by
  induction W with
  | @nil T N X g => cases T <;> simp [rest]
  | one _ ih => exact ih
  | l _ ih => simp only [Own, rest, ih]; grind
  | r _ ih => simp only [Own, rest, ih]; grind
  | @own e me X g i p t m x h hi W ih =>
    simp only [Own, rest]
    constructor
    · rintro (h1 | ⟨j, hj, h1⟩)
      · exact .inl (.inl h1)
      · by_cases hij : j = i
        · subst hij; exact (ih.1 h1).imp (fun k => .inr (.inr k)) id
        · exact .inl (.inr (.inl ⟨j, hj, hij, h1⟩))
    · rintro ((h1 | ⟨j, hj, _, h1⟩ | h1) | h1)
      · exact .inl h1
      · exact .inr ⟨j, hj, h1⟩
      · exact .inr ⟨i, hi, ih.2 (.inl h1)⟩
      · exact .inr ⟨i, hi, ih.2 (.inr h1)⟩
  | @sh e o X g i p t m x h hi W ih =>
    simp only [rest, false_or]
    have h1 : ¬ Own e (.sh o) (g.kid i) b := Own.sh _ _ _ _
    have h2 : ¬ Own t m h b := fun k => h1 (ih.2 (.inr k))
    simp [Own, h2]
theorem Way.sep (W : Way T N X g p t m x h) (S : Sep T N g) : Sep t m h ∧ ∀ b, rest T N g p b → ¬ Own t m h b := by
  induction W with
  | @nil T N X g => exact ⟨S, fun b hb => by cases T <;> exact hb.elim⟩
  | one _ ih => exact ih S
  | l W ih => exact ⟨(ih S.1).1, fun b hb k => hb.elim (fun hb => (ih S.1).2 b hb k) fun hb => S.2.2 b ((W.own_iff b).2 (.inr k)) hb⟩
  | r W ih => exact ⟨(ih S.2.1).1, fun b hb k => hb.elim (fun hb => S.2.2 b hb ((W.own_iff b).2 (.inr k))) fun hb => (ih S.2.1).2 b hb k⟩
  | own hi W ih =>
    refine ⟨(ih (S.1 _ hi)).1, fun b hb k => ?_⟩
    rcases hb with ⟨a, ha, rfl⟩ | ⟨j, hj, hij, hb⟩ | hb
    · exact S.2.2 a _ ha hi ((W.own_iff _).2 (.inr k))
    · exact S.2.1 _ _ b hj hi hij hb ((W.own_iff _).2 (.inr k))
    · exact (ih (S.1 _ hi)).2 b hb k
  | sh hi W ih => exact ⟨(ih (Sep.sh _ _ _)).1, fun b hb => hb.elim⟩
theorem Way.at (W : Way T N X g p t m x h) (M : Mem w I F T N X g) {c : Option Addr} (hc : hasAt p = true ∨ At w c 0 (cells T X g)) : At w (place T g c p) 0 (cells t x h) := by
  induction W generalizing c with
  | @nil T N X g => cases T <;> exact hc.elim (fun k => by cases k) id
  | one _ ih => exact ih M hc
  | l _ ih => exact ih M.1 (hc.imp id fun k => (At.append.1 k).1)
  | r _ ih =>
    refine ih M.2 (hc.imp id fun k => ?_)
    have := (At.append.1 k).2
    rw [cells_len] at this
    exact At.add.2 (by simpa using this)
  | own hi _ ih => exact ih (M.2.2 _ hi).2 (.inr (At.add.2 (by simpa using (M.2.2 _ hi).1)))
  | sh hi _ ih => exact ih (M.2.2 _ hi).2 (.inr (At.add.2 (by simpa using (M.2.2 _ hi).1)))
/-- where a part without a row on its way lies -/
theorem Way.ofs (W : Way T N X g p t m x h) (hp : hasAt p = false) : ofs T p + t.size ≤ T.size ∧ (∀ c, place T g c p = c.map (·.add (Den.ofs T p))) ∧
    (∀ k, k < t.size → (cells T X g)[Den.ofs T p + k]? = (cells t x h)[k]?) := by
  induction W with
  | @nil T N X g => cases T <;> simp [Den.ofs, place, Addr.add_zero', Option.map_id']
  | one _ ih => exact ih hp
  | @l a b N X g p t m x h W ih =>
    obtain ⟨h1, h2, h3⟩ := ih hp
    refine ⟨by simp only [Den.ofs, Ty.size]; omega, h2, fun k hk => ?_⟩
    simp only [cells, Den.ofs]
    rw [List.getElem?_append_left (by rw [cells_len]; omega)]
    exact h3 k hk
  | @r a b N X g p t m x h W ih =>
    obtain ⟨h1, h2, h3⟩ := ih hp
    refine ⟨by simp only [Den.ofs, Ty.size]; omega, fun c => ?_, fun k hk => ?_⟩
    · simp only [place, h2, Option.map_map, Den.ofs]
      congr 1
      funext d
      simp [Addr.add_add']
    · simp only [cells, Den.ofs]
      rw [List.getElem?_append_right (by rw [cells_len]; omega), cells_len]
      rw [← h3 k hk]
      congr 1
      omega
  | own _ _ _ => cases hp
  | sh _ _ _ => cases hp
/-- a part behind a row lies in a block that the whole owns (if it may be written) -/
theorem Way.inRow (W : Way T N X g p t m x h) (hw : wr T N p = true) (hp : hasAt p = true) : ∀ c a, place T g c p = some a → rest T N g p a.block := by
  induction W with
  | nil => cases hp
  | one _ ih => exact ih hw hp
  | l _ ih => exact fun c a ha => .inl (ih hw hp c a ha)
  | r _ ih => exact fun c a ha => .inr (ih hw hp _ a ha)
  | @own e me X g i p t m x h hi W ih =>
    intro c a ha
    cases hq : hasAt p with
    | true => exact .inr (.inr (ih hw hq _ a ha))
    | false =>
      simp only [place] at ha
      rw [(W.ofs hq).2.1] at ha
      cases hg : g.addr with
      | none => rw [hg] at ha; cases ha
      | some d =>
        rw [hg] at ha
        simp only [Option.map_some, Option.some.injEq] at ha
        subst ha
        exact .inl ⟨d, hg, by rw [Addr.add_block, Addr.add_block]⟩
  | sh _ _ _ => cases hw
end

theorem mdPut_R : ∀ {T : Ty} {N : Md} {p : List Step} {m' N' : Md}, mdPut T N p m' = some N' → MdR T N p m' N'
  | T, N, [], m', N', h => by cases T <;> (simp only [mdPut, Option.some.injEq] at h; exact h.symm)
  | .one a, N, .l :: p, m', N', h => mdPut_R (T := a) h
  | .cons a b, N, .l :: p, m', N', h => by
    obtain ⟨z, h1, h2⟩ := Option.bind_eq_some_iff.1 h
    cases h2
    exact ⟨mdPut_R h1, rfl⟩
  | .cons a b, N, .r :: p, m', N', h => by
    obtain ⟨z, h1, h2⟩ := Option.bind_eq_some_iff.1 h
    cases h2
    exact ⟨rfl, mdPut_R h1⟩
  | .sl e, N, .at i :: p, m', N', h => by
    cases N with
    | own me =>
      simp only [mdPut] at h
      obtain ⟨z, h1, h2⟩ := Option.bind_eq_some_iff.1 h
      split at h2
      · rename_i hz
        subst hz
        cases h2
        exact ⟨_, rfl, rfl, mdPut_R h1⟩
      · cases h2
    | _ => cases h
  | .int _, _, _ :: _, _, _, h => by simp [mdPut] at h
  | .bool, _, _ :: _, _, _, h => by simp [mdPut] at h
  | .str, _, _ :: _, _, _, h => by simp [mdPut] at h
  | .unit, _, _ :: _, _, _, h => by simp [mdPut] at h
  | .one _, _, .r :: _, _, _, h => by cases h
  | .one _, _, .at _ :: _, _, _, h => by cases h
  | .cons _ _, _, .at _ :: _, _, _, h => by cases h
  | .sl _, _, .l :: _, _, _, h => by cases h
  | .sl _, _, .r :: _, _, _, h => by cases h
theorem MdR.wr' : ∀ {T : Ty} {N : Md} {p : List Step} {m' N' : Md}, MdR T N p m' N' → Den.wr T N p = true
  | T, N, [], m', N', h => by cases T <;> rfl
  | .one a, N, .l :: p, m', N', h => MdR.wr' (T := a) h
  | .cons a b, N, .l :: p, m', N', h => by simp only [wr]; exact MdR.wr' h.1
  | .cons a b, N, .r :: p, m', N', h => by simp only [wr]; exact MdR.wr' h.2
  | .sl e, N, .at i :: p, m', N', h => by
    obtain ⟨me, rfl, _, k⟩ := h
    simp only [wr]; exact MdR.wr' k
  | .int _, _, _ :: _, _, _, h => by simp [MdR] at h
  | .bool, _, _ :: _, _, _, h => by simp [MdR] at h
  | .str, _, _ :: _, _, _, h => by simp [MdR] at h
  | .unit, _, _ :: _, _, _, h => by simp [MdR] at h
  | .one _, _, .r :: _, _, _, h => by cases h
  | .one _, _, .at _ :: _, _, _, h => by cases h
  | .cons _ _, _, .at _ :: _, _, _, h => by cases h
  | .sl _, _, .l :: _, _, _, h => by cases h
  | .sl _, _, .r :: _, _, _, h => by cases h
theorem Way.mdR {T : Ty} {N : Md} {X : T.den} {g : G} {p : List Step} {t : Ty} {m : Md} {x : t.den} {h : G} (W : Way T N X g p t m x h) (hw : wr T N p = true) : MdR T N p m N := by
  induction W with
  | @nil T N X g => cases T <;> rfl
  | one _ ih => exact ih hw
  | l _ ih => exact ⟨ih hw, rfl⟩
  | r _ ih => exact ⟨rfl, ih hw⟩
  | own hi _ ih => exact ⟨_, rfl, rfl, ih hw⟩
  | sh _ _ _ => cases hw

/-- cells of one block turned, nothing else of it -/
def Rep (w w' : World) (a : Addr) (cs : List Value) : Prop :=
  a.spot = none ∧ ∃ C C' te fz, w.heap[a.block]? = some (.cells C te fz) ∧ w'.heap[a.block]? = some (.cells C' te fz) ∧ C'.size = C.size ∧
    (∀ j v, cs[j]? = some v → C'[a.off + j]? = some v) ∧ ∀ k, (k < a.off ∨ a.off + cs.length ≤ k) → C'[k]? = C[k]?

theorem At.blk {w : World} {b o : Nat} {C : Array Value} {te : TypeId} {fz : Nat × Nat} (hC : w.heap[b]? = some (.cells C te fz)) {k : Nat} {cs : List Value} :
    At w (some ⟨b, o, none⟩) k cs ↔ ∀ j v, cs[j]? = some v → C[o + k + j]? = some v := by
  have hcell : ∀ i, w.cell? ((⟨b, o, none⟩ : Addr).add i) = C[o + i]? := by
    intro i
    rw [Addr.add_mk]
    simp [World.cell?, hC]
  constructor
  · intro h j v hj
    obtain ⟨d, hd, hv⟩ := h j v hj
    cases hd
    rw [hcell] at hv
    rw [Nat.add_assoc]; exact hv
  · intro h j v hj
    refine ⟨_, rfl, ?_⟩
    rw [hcell, ← Nat.add_assoc]; exact h j v hj

section
variable {w w' : World} {I F : Nat → Prop}
theorem Way.target {T : Ty} {N : Md} {X : T.den} {g : G} {p : List Step} {t : Ty} {m : Md} {x : t.den} {h : G} (W : Way T N X g p t m x h) (hw : wr T N p = true) (c : Option Addr) (a : Addr)
    (ha : place T g c p = some a) : (hasAt p = true ∧ rest T N g p a.block) ∨ (hasAt p = false ∧ ∃ d, c = some d ∧ a = d.add (Den.ofs T p)) := by
  cases hp : hasAt p with
  | true => exact .inl ⟨rfl, W.inRow hw hp c a ha⟩
  | false =>
    rw [(W.ofs hp).2.1] at ha
    cases c with
    | none => cases ha
    | some d =>
      simp only [Option.map_some, Option.some.injEq] at ha
      exact .inr ⟨rfl, d, rfl, ha.symm⟩

/-- one part is replaced -/
theorem Way.repl2 {T : Ty} {N : Md} {X : T.den} {g : G} {p : List Step} {t : Ty} {m : Md} {x : t.den} {h : G} (W : Way T N X g p t m x h)
    {x' : t.den} {m' : Md} {h' : G} {I2 : Nat → Prop} (M' : Mem w' I2 F t m' x' h') (S' : Sep t m' h') (hII : ∀ b, I b → I2 b) (hI : ∀ b, I b → w'.heap[b]? = w.heap[b]?) :
    ∀ {X' : T.den} {N' : Md} {c : Option Addr}, Mem w I F T N X g → Sep T N g → put T X p t x' = some X' → MdR T N p m' N' →
    (∀ b, Own t m' h' b → ¬ rest T N g p b) →
    (∀ b, rest T N g p b → (∀ a, place T g c p = some a → a.block ≠ b) → w'.heap[b]? = w.heap[b]?) →
    (∀ a, place T g c p = some a → Rep w w' a (cells t x' h')) →
    (∀ a, c = some a → ¬ Own T N g a.block) →
    Mem w' I2 F T N' X' (gput T g p h') ∧ Sep T N' (gput T g p h') ∧ (∀ b, Own T N' (gput T g p h') b → rest T N g p b ∨ Own t m' h' b) ∧
    (hasAt p = true → cells T X' (gput T g p h') = cells T X g) ∧
    (hasAt p = false → ∀ k, (Den.ofs T p ≤ k → k < Den.ofs T p + t.size → (cells T X' (gput T g p h'))[k]? = (cells t x' h')[k - Den.ofs T p]?) ∧
      (k < Den.ofs T p ∨ Den.ofs T p + t.size ≤ k → (cells T X' (gput T g p h'))[k]? = (cells T X g)[k]?)) := by
  induction W with
  | @nil T N X g =>
    intro X' N' c M S hX hN D hR hP hc
    have e1 : X' = x' := by
      have : put T X [] T x' = some x' := by cases T <;> simp [put, Ty.cast]
      rw [this] at hX; cases hX; rfl
    have e2 : N' = m' := by cases T <;> exact hN
    have e3 : gput T g [] h' = h' := by cases T <;> rfl
    have e4 : Den.ofs T [] = 0 := by cases T <;> rfl
    subst e1 e2
    rw [e3, e4]
    refine ⟨M', S', fun b hb => .inr hb, fun k => (by cases k), fun _ k => ?_⟩
    refine ⟨fun _ _ => rfl, fun hk => ?_⟩
    rw [List.getElem?_eq_none (by rw [cells_len]; omega), List.getElem?_eq_none (by rw [cells_len]; omega)]
  | one W ih =>
    intro X' N' c M S hX hN D hR hP hc
    exact ih M' S' M S hX hN D hR hP hc
  | @l a b N X g p t m x h W ih =>
    intro X' N' c M S hX hN D hR hP hc
    obtain ⟨z, hz, hX⟩ := Option.bind_eq_some_iff.1 hX
    cases hX
    obtain ⟨hN1, hN2⟩ := hN
    have hw := hN1.wr'
    obtain ⟨i1, i2, i3, i4, i5⟩ := ih M' S' (c := c) M.1 S.1 hz hN1 (fun q hq k => D q hq (.inl k)) (fun q hq k => hR q (.inl hq) k) hP (fun d hd k => hc d hd (.inl k))
    have hfr : ∀ q, Own b N.snd g.snd q → w'.heap[q]? = w.heap[q]? := fun q hq => hR q (.inr hq) fun d hd k => by
      rcases W.target hw c d hd with ⟨_, h1⟩ | ⟨_, d', h1, h2⟩
      · exact S.2.2 _ ((W.own_iff _).2 (.inl h1)) (k ▸ hq)
      · subst h2; rw [Addr.add_block] at k; exact hc d' h1 (.inr (k ▸ hq))
    refine ⟨⟨i1, ?_⟩, ⟨i2, ?_, ?_⟩, ?_, fun hp => ?_, fun hp k => ?_⟩
    · simp only [gput, G.snd_pr, hN2]
      exact Mem.mono (M.2.frame fun q hq => hq.elim (hfr q) (hI q)) hII fun _ _ k => k
    · simp only [gput, G.snd_pr, hN2]; exact S.2.1
    · intro q h1 h2
      simp only [gput, G.snd_pr, G.fst_pr, hN2] at h1 h2
      rcases i3 q h1 with h3 | h3
      · exact S.2.2 q ((W.own_iff _).2 (.inl h3)) h2
      · exact D q h3 (.inr h2)
    · rintro q (h1 | h1)
      · exact (i3 q h1).imp .inl id
      · simp only [gput, G.snd_pr, hN2] at h1; exact .inl (.inr h1)
    · simp only [cells, gput, G.fst_pr, G.snd_pr, i4 hp]
    · simp only [cells, gput, G.fst_pr, G.snd_pr, Den.ofs]
      have hs := (W.ofs hp).1
      refine ⟨fun h1 h2 => ?_, fun h1 => ?_⟩
      · rw [List.getElem?_append_left (by rw [cells_len]; omega)]
        exact (i5 hp k).1 h1 h2
      · by_cases hk : k < a.size
        · rw [List.getElem?_append_left (by rw [cells_len]; exact hk), List.getElem?_append_left (by rw [cells_len]; exact hk)]
          exact (i5 hp k).2 h1
        · rw [List.getElem?_append_right (by rw [cells_len]; omega), List.getElem?_append_right (by rw [cells_len]; omega), cells_len, cells_len]
  | @r a b N X g p t m x h W ih =>
    intro X' N' c M S hX hN D hR hP hc
    obtain ⟨z, hz, hX⟩ := Option.bind_eq_some_iff.1 hX
    cases hX
    obtain ⟨hN1, hN2⟩ := hN
    have hw := hN2.wr'
    obtain ⟨i1, i2, i3, i4, i5⟩ := ih M' S' (c := c.map (fun d : Addr => d.add a.size)) M.2 S.2.1 hz hN2 (fun q hq k => D q hq (.inr k)) (fun q hq k => hR q (.inr hq) k) hP (fun d hd k => by
      cases c with
      | none => cases hd
      | some d' =>
        simp only [Option.map_some, Option.some.injEq] at hd
        subst hd
        rw [Addr.add_block] at k
        exact hc d' rfl (.inr k))
    have hfr : ∀ q, Own a N.fst g.fst q → w'.heap[q]? = w.heap[q]? := fun q hq => hR q (.inl hq) fun d hd k => by
      rcases W.target hw _ d hd with ⟨_, h1⟩ | ⟨_, d', h1, h2⟩
      · exact S.2.2 _ (k ▸ hq) ((W.own_iff _).2 (.inl h1))
      · cases c with
        | none => cases h1
        | some d'' =>
          simp only [Option.map_some, Option.some.injEq] at h1
          subst h1; subst h2
          rw [Addr.add_block, Addr.add_block] at k
          exact hc d'' rfl (.inl (k ▸ hq))
    refine ⟨⟨?_, i1⟩, ⟨?_, i2, ?_⟩, ?_, fun hp => ?_, fun hp k => ?_⟩
    · simp only [gput, G.fst_pr, hN1]
      exact Mem.mono (M.1.frame fun q hq => hq.elim (hfr q) (hI q)) hII fun _ _ k => k
    · simp only [gput, G.fst_pr, hN1]; exact S.1
    · intro q h1 h2
      simp only [gput, G.snd_pr, G.fst_pr, hN1] at h1 h2
      rcases i3 q h2 with h3 | h3
      · exact S.2.2 q h1 ((W.own_iff _).2 (.inl h3))
      · exact D q h3 (.inl h1)
    · rintro q (h1 | h1)
      · simp only [gput, G.fst_pr, hN1] at h1; exact .inl (.inl h1)
      · exact (i3 q h1).imp .inr id
    · simp only [cells, gput, G.fst_pr, G.snd_pr, i4 hp]
    · simp only [cells, gput, G.fst_pr, G.snd_pr, Den.ofs]
      have hs := (W.ofs hp).1
      refine ⟨fun h1 h2 => ?_, fun h1 => ?_⟩
      · rw [List.getElem?_append_right (by rw [cells_len]; omega), cells_len, (i5 hp (k - a.size)).1 (by omega) (by omega)]
        congr 1; omega
      · by_cases hk : k < a.size
        · rw [List.getElem?_append_left (by rw [cells_len]; exact hk), List.getElem?_append_left (by rw [cells_len]; exact hk)]
        · rw [List.getElem?_append_right (by rw [cells_len]; omega), List.getElem?_append_right (by rw [cells_len]; omega), cells_len, (i5 hp (k - a.size)).2 (by omega)]
  | @own e me X g i p t m x h hi W ih =>
    intro X' N' c M S hX hN D hR hP hc
    obtain ⟨z, hz, hX⟩ := Option.bind_eq_some_iff.1 hX
    cases hX
    obtain ⟨me1, e1, rfl, hN⟩ := hN
    cases e1
    have hw := hN.wr'
    obtain ⟨hlen, hrow, hel⟩ := M
    -- where the row lies
    obtain ⟨bb, o, C, te, haddr, hC, hcap, hle, hmax⟩ : ∃ b o C te, g.addr = some ⟨b, o, none⟩ ∧ w.heap[b]? = some (.cells C te (0, 0)) ∧ o + g.cap * e.size ≤ C.size ∧ g.len ≤ g.cap ∧ g.cap ≤ maxLen := by
      rcases hrow with ⟨_, h1, _⟩ | h1
      · omega
      · exact h1
    have hnot : ∀ j, j < g.len → ¬ Own e me (g.kid j) bb := fun j hj => S.2.2 _ j haddr hj
    obtain ⟨i1, i2, i3, i4, i5⟩ := ih M' S' (c := g.addr.map (fun d : Addr => d.add (i * e.size))) (hel i hi).2 (S.1 i hi) hz hN (fun q hq k => D q hq (.inr (.inr k))) (fun q hq k => hR q (.inr (.inr hq)) k) hP (fun d hd k => by
      rw [haddr] at hd
      simp only [Option.map_some, Option.some.injEq] at hd
      subst hd
      rw [Addr.add_block] at k
      exact hnot i hi k)
    have htgt := W.target hw (g.addr.map (fun d : Addr => d.add (i * e.size)))
    -- the row's block
    have hblk : (hasAt p = true ∧ w'.heap[bb]? = w.heap[bb]?) ∨ (hasAt p = false ∧ Rep w w' (((⟨bb, o, none⟩ : Addr).add (i * e.size)).add (Den.ofs e p)) (cells t x' h')) := by
      cases hp : hasAt p with
      | true =>
        refine .inl ⟨rfl, hR bb (.inl ⟨_, haddr, rfl⟩) fun d hd k => ?_⟩
        rcases htgt d hd with ⟨_, h1⟩ | ⟨h1, _⟩
        · exact hnot i hi ((W.own_iff _).2 (.inl (k ▸ h1)))
        · rw [hp] at h1; cases h1
      | false =>
        refine .inr ⟨rfl, hP _ ?_⟩
        simp only [place]
        rw [(W.ofs hp).2.1, haddr]
        rfl
    have hoth : ∀ j, j < g.len → j ≠ i → ∀ q, Own e me (g.kid j) q → w'.heap[q]? = w.heap[q]? := fun j hj hji q hq => hR q (.inr (.inl ⟨j, hj, hji, hq⟩)) fun d hd k => by
      rcases htgt d hd with ⟨_, h1⟩ | ⟨_, d', h1, h2⟩
      · exact S.2.1 _ _ _ hj hi hji hq ((W.own_iff _).2 (.inl (k ▸ h1)))
      · rw [haddr] at h1
        simp only [Option.map_some, Option.some.injEq] at h1
        subst h1; subst h2
        rw [Addr.add_block, Addr.add_block] at k
        subst k; exact hnot j hj hq
    obtain ⟨C', hC', hsz, hat⟩ : ∃ C', w'.heap[bb]? = some (.cells C' te (0, 0)) ∧ C'.size = C.size ∧ ∀ j, j < g.len → At w' g.addr (j * e.size) (cells e (List.getD (List.set X i z) j e.dflt) (if j = i then gput e (g.kid i) p h' else g.kid j)) := by
      have hXi : List.getD (List.set X i z) i e.dflt = z := by
        rw [List.getD_eq_getElem?_getD, List.getElem?_set_self (by omega)]; rfl
      have hXj : ∀ j, j ≠ i → List.getD (List.set X i z) j e.dflt = List.getD X j e.dflt := fun j hj => by
        rw [List.getD_eq_getElem?_getD, List.getD_eq_getElem?_getD, List.getElem?_set_ne (fun h => hj h.symm)]
      rcases hblk with ⟨hp, hsame⟩ | ⟨hp, hrep⟩
      · refine ⟨C, by rw [hsame]; exact hC, rfl, fun j hj => ?_⟩
        have hold := (hel j hj).1.frame (w' := w') fun d hd => by rw [haddr] at hd; cases hd; exact hsame
        by_cases hji : j = i
        · subst hji; rw [hXi, if_pos rfl, i4 hp]; exact hold
        · rw [hXj j hji, if_neg hji]; exact hold
      · obtain ⟨_, D1, C', te', fz, hD1, hC', hsz, hin, hout⟩ := hrep
        rw [Addr.add_block, Addr.add_block] at hD1 hC'
        rw [hC] at hD1
        cases hD1
        refine ⟨C', hC', hsz, fun j hj => ?_⟩
        have hold := (hel j hj).1
        rw [haddr] at hold ⊢
        rw [At.blk hC] at hold
        rw [At.blk hC']
        rw [Addr.add_mk, Addr.add_mk] at hin hout
        simp only [cells_len] at hout
        have hofs := (W.ofs hp).1
        by_cases hji : j = i
        · subst hji
          rw [hXi, if_pos rfl]
          intro k v hk
          by_cases hkr : Den.ofs e p ≤ k ∧ k < Den.ofs e p + t.size
          · rw [(i5 hp k).1 hkr.1 hkr.2] at hk
            have := hin _ _ hk
            rw [← this]
            congr 1; show _ = o + j * e.size + Den.ofs e p + _; omega
          · rw [(i5 hp k).2 (by omega)] at hk
            rw [hout _ (by omega)]
            exact hold k v hk
        · rw [hXj j hji, if_neg hji]
          intro k v hk
          have hkl : k < e.size := by
            have := (List.getElem?_eq_some_iff.1 hk).1
            rw [cells_len] at this; exact this
          rw [hout]
          · exact hold k v hk
          · rcases Nat.lt_or_ge j i with hlt | hge
            · left
              have : (j + 1) * e.size ≤ i * e.size := Nat.mul_le_mul_right _ hlt
              rw [Nat.add_mul] at this
              omega
            · right
              have : (i + 1) * e.size ≤ j * e.size := Nat.mul_le_mul_right _ (by omega)
              rw [Nat.add_mul] at this
              omega
    have hkown : ∀ j q, j < g.len → Own e me (if j = i then gput e (g.kid i) p h' else g.kid j) q → Own e me (g.kid j) q ∨ (j = i ∧ Own t m' h' q) := by
      intro j q hj hq
      by_cases hji : j = i
      · subst hji
        rw [if_pos rfl] at hq
        exact (i3 q hq).imp (fun k => (W.own_iff _).2 (.inl k)) fun k => ⟨rfl, k⟩
      · rw [if_neg hji] at hq; exact .inl hq
    refine ⟨⟨?_, ?_, fun j hj => ⟨hat j hj, ?_⟩⟩, ⟨fun j hj => ?_, ?_, ?_⟩, ?_, fun _ => rfl, fun k => by cases k⟩
    · simp only [gput, G.len_hd, List.length_set]; exact hlen
    · exact .inr ⟨bb, o, C', te, haddr, hC', by simp only [gput, G.cap_hd]; omega, hle, hmax⟩
    · simp only [gput, G.kid_hd]
      by_cases hji : j = i
      · subst hji
        rw [if_pos rfl, List.getD_eq_getElem?_getD, List.getElem?_set_self (by simp only [gput, G.len_hd] at hj; omega)]
        exact i1
      · rw [if_neg hji, List.getD_eq_getElem?_getD, List.getElem?_set_ne (fun h => hji h.symm), ← List.getD_eq_getElem?_getD]
        exact Mem.mono ((hel j hj).2.frame fun q hq => hq.elim (hoth j hj hji q) (hI q)) hII fun _ _ k => k
    · simp only [gput, G.kid_hd]
      by_cases hji : j = i
      · subst hji; rw [if_pos rfl]; exact i2
      · rw [if_neg hji]; exact S.1 j hj
    · intro j k q hj hk hjk h1 h2
      simp only [gput, G.kid_hd, G.len_hd] at h1 h2 hj hk
      rcases hkown j q hj h1 with u1 | ⟨e1, u1⟩
      · rcases hkown k q hk h2 with u2 | ⟨e2, u2⟩
        · exact S.2.1 _ _ _ hj hk hjk u1 u2
        · subst e2; exact D q u2 (.inr (.inl ⟨j, hj, hjk, u1⟩))
      · rcases hkown k q hk h2 with u2 | ⟨e2, u2⟩
        · subst e1; exact D q u1 (.inr (.inl ⟨k, hk, fun e => hjk e.symm, u2⟩))
        · exact hjk (e1.trans e2.symm)
    · intro a j ha hj h1
      simp only [gput, G.kid_hd, G.len_hd, G.addr_hd] at h1 ha hj
      rcases hkown j _ hj h1 with u1 | ⟨e1, u1⟩
      · exact S.2.2 a j ha hj u1
      · exact D _ u1 (.inl ⟨a, ha, rfl⟩)
    · rintro q (h1 | ⟨j, hj, h1⟩)
      · exact .inl (.inl h1)
      · simp only [gput, G.kid_hd, G.len_hd] at h1 hj
        by_cases hji : j = i
        · subst hji
          rw [if_pos rfl] at h1
          exact (i3 q h1).imp (fun k => .inr (.inr k)) id
        · rw [if_neg hji] at h1
          exact .inl (.inr (.inl ⟨j, hj, hji, h1⟩))
  | sh hi W ih =>
    intro X' N' c M S hX hN
    obtain ⟨me, h1, _⟩ := hN
    cases h1
theorem Way.repl {T : Ty} {N : Md} {X : T.den} {g : G} {p : List Step} {t : Ty} {m : Md} {x : t.den} {h : G} (W : Way T N X g p t m x h)
    {x' : t.den} {m' : Md} {h' : G} (M' : Mem w' I F t m' x' h') (S' : Sep t m' h') (hI : ∀ b, I b → w'.heap[b]? = w.heap[b]?) :
    ∀ {X' : T.den} {N' : Md} {c : Option Addr}, Mem w I F T N X g → Sep T N g → put T X p t x' = some X' → MdR T N p m' N' →
    (∀ b, Own t m' h' b → ¬ rest T N g p b) →
    (∀ b, rest T N g p b → (∀ a, place T g c p = some a → a.block ≠ b) → w'.heap[b]? = w.heap[b]?) →
    (∀ a, place T g c p = some a → Rep w w' a (cells t x' h')) →
    (∀ a, c = some a → ¬ Own T N g a.block) →
    Mem w' I F T N' X' (gput T g p h') ∧ Sep T N' (gput T g p h') ∧ (∀ b, Own T N' (gput T g p h') b → rest T N g p b ∨ Own t m' h' b) ∧
    (hasAt p = true → cells T X' (gput T g p h') = cells T X g) ∧
    (hasAt p = false → ∀ k, (Den.ofs T p ≤ k → k < Den.ofs T p + t.size → (cells T X' (gput T g p h'))[k]? = (cells t x' h')[k - Den.ofs T p]?) ∧
      (k < Den.ofs T p ∨ Den.ofs T p + t.size ≤ k → (cells T X' (gput T g p h'))[k]? = (cells T X g)[k]?)) :=
  W.repl2 M' S' (fun _ k => k) hI
end
end Go.Den
/-
  A frame's slots and the world's blocks: what stands between the evaluator's slots and the machine's.
-/
namespace Go.Den
open Go
set_option linter.unusedVariables false
set_option linter.unusedSimpArgs false

theorem Env.get_set : ∀ (e : Env) (n : Nat) (z : Slot) (k : Nat), (e.set n z).get k = if k = n then z else e.get k
  | [], n, z, k => by
    simp only [Env.set, Env.get]
    by_cases h : n = k
    · subst h; simp
    · have : ¬ k = n := fun c => h c.symm
      simp [h, this]
  | (i, y) :: r, n, z, k => by
    have ih := Env.get_set r n z k
    unfold Env.set
    split
    · simp only [Env.get]
      by_cases h : n = k
      · subst h; simp
      · have : ¬ k = n := fun c => h c.symm
        simp [h, this]
    · split
      · rename_i h
        subst h
        simp only [Env.get]
        by_cases h : i = k
        · subst h; simp
        · have : ¬ k = i := fun c => h c.symm
          simp [h, this]
      · simp only [Env.get]
        rename_i hin
        by_cases h : i = k
        · subst h; simp [hin]
        · simp only [h, if_false]; exact ih

/-- where a slot's box lies, and where the rows of its data lie -/
structure Gs where
  b : Option Addr
  g : G
def toV (t : Ty) (x : t.den) (g : G) : Value := if t.agg then .agg (cells t x g).toArray else (cells t x g).headD undef
def tupV : (t : Ty) → t.den → G → List Value
  | .one a, x, g => [toV a x g]
  | .cons a b, x, g => toV a x.1 g.fst :: tupV b x.2 g.snd
  | _, _, _ => []
def kV (k : VK) (t : Ty) (x : t.den) (γ : Gs) : Value := match k with
  | .reg => toV t x γ.g
  | .box => .pointer γ.b
  | .tup => .tuple (tupV t x γ.g).toArray
  | .map => .map (γ.g.addr.map (·.block))
  | .pin none => .pointer γ.b
  | .pin (some g) => .func (.func g) #[] #[.pointer γ.b]
theorem toV_congr {t : Ty} {x y : t.den} {g h : G} (hc : cells t x g = cells t y h) : toV t x g = toV t y h := by unfold toV; rw [hc]
theorem tupV_congr : ∀ {t : Ty} {x y : t.den} {g h : G}, cells t x g = cells t y h → tupV t x g = tupV t y h
  | .one a, x, y, g, h, hc => by simp only [tupV]; rw [toV_congr (t := a) hc]
  | .cons a b, x, y, g, h, hc => by
    obtain ⟨h1, h2⟩ := List.append_inj hc (by rw [cells_len, cells_len])
    simp only [tupV]; rw [toV_congr h1, tupV_congr h2]
  | .int _, _, _, _, _, _ => rfl
  | .bool, _, _, _, _, _ => rfl
  | .str, _, _, _, _, _ => rfl
  | .unit, _, _, _, _, _ => rfl
  | .sl _, _, _, _, _, _ => rfl

def OwnS (z : Slot) (γ : Gs) (b : Nat) : Prop := match z.sv with
  | .val .box t m _ => (∃ a, γ.b = some a ∧ a.block = b) ∨ Own t m γ.g b
  | .val .map t m _ => (∃ a, γ.g.addr = some a ∧ a.block = b) ∨ Own t m γ.g b
  | .val _ t m _ => Own t m γ.g b
  | _ => False
def BoxOk (w : World) (t : Ty) (m : Md) (x : t.den) (γ : Gs) : Prop :=
  ∃ a C te, γ.b = some a ∧ a.spot = none ∧ w.heap[a.block]? = some (.cells C te (0, 0)) ∧ At w γ.b 0 (cells t x γ.g) ∧ ¬ Own t m γ.g a.block
def mapEs : (t : Ty) → t.den → Option (List (ByteArray × Int))
  | .sl (.cons .str (.int .i64)), x => some x
  | _, _ => none
/-- a map of one's own: its object holds the entries -/
def MapOk (w : World) (t : Ty) (m : Md) (x : t.den) (γ : Gs) : Prop :=
  t = mapTy ∧ m = .gone ∧ γ.b = none ∧ (∃ n, γ.g = .hd γ.g.addr n 0 fun _ => .lf) ∧ ∃ b es clock l, γ.g.addr = some ⟨b, 0, none⟩ ∧ w.heap[b]? = some (.map es clock) ∧ mapEs t x = some l ∧ es.toList.map (fun e => (e.key, e.val)) = l.map fun p => (Value.string p.1, Value.int .i64 p.2)
/-- a box that is only read: it is given to all -/
def PinOk (w : World) (I : Nat → Prop) (t : Ty) (m : Md) (x : t.den) (γ : Gs) : Prop :=
  (∃ o, m = .sh o) ∧ ∃ a C te fz, γ.b = some a ∧ a.spot = none ∧ w.heap[a.block]? = some (.cells C te fz) ∧ At w γ.b 0 (cells t x γ.g) ∧ I a.block
def SlotOk (w : World) (I F : Nat → Prop) (z : Slot) (v : Value) (γ : Gs) : Prop := match z.sv with
  | .no => True
  | .und => v = undef
  | .nil => v = .slice none 0 0
  | .fn g cs => cs = [] ∧ v = .func (.func g) #[] #[]
  | .ref .. => True
  | .clo .. => True
  | .val k t m x => v = kV k t x γ ∧ Mem w I F t m x γ.g ∧ Sep t m γ.g ∧ match k with
    | .box => BoxOk w t m x γ
    | .map => MapOk w t m x γ
    | .pin _ => PinOk w I t m x γ
    | _ => γ.b = none
def RefOk (k : RK) (kk : VK) (T : Ty) (X : T.den) (γ : Gs) (p : List Step) (t : Ty) (v : Value) : Prop :=
  okP T γ.g p ∧ ∃ m x, sub T T.mine X p = some ⟨t, m, x⟩ ∧ match k with
    | .plc => ∃ a, place T γ.g γ.b p = some a ∧ v = .pointer (some a)
    | .clo g => ∃ a, place T γ.g γ.b p = some a ∧ v = .func (.func g) #[] #[.pointer (some a)]
    | .ali => v = if kk.whole = true ∧ p = [] then kV kk T X γ else toV t x (gsub T γ.g p)
/-- not told of what is yet to come -/
def past (v s d : Nat) (q : Slot) : Prop := v ≤ q.ver ∧ (v = q.ver → s ≤ q.sver ∧ (s = q.sver → d ≤ q.dver))
def RefSt (z : Slot) (γ : Gs) (k : RK) (v s d : Nat) (p : List Step) (t : Ty) (y : Value) : Prop :=
  past v s d z ∧ (refOk k p t v s d z = true → ∃ kk T M X, z.sv = .val kk T M X ∧ RefOk k kk T X γ p t y)

def upd {α : Type} (f : Nat → α) (n : Nat) (x : α) : Nat → α := fun k => if k = n then x else f k
/-- what a closure is bound to: what the slots hold, as long as they are not written anew -/
def Caps (e : Env) (a : Nat → Value) (cs : List (Nat × Nat)) (vs : List Value) : Prop := vs.length = cs.length ∧ ∀ (i : Nat) (c : Nat × Nat), cs[i]? = some c → c.2 ≤ (e.get c.1).ver ∧ ((e.get c.1).ver = c.2 → vs[i]? = some (a c.1))
def CloOk (e : Env) (a : Nat → Value) (g : Nat) (cs : List (Nat × Nat)) (v : Value) : Prop := ∃ vs : List Value, v = .func (.func g) #[] vs.toArray ∧ Caps e a cs vs
structure FnSt (w : World) (a : Nat → Value) (e : Env) (I : Nat → Prop) : Prop where
  clo : ∀ n g cs, (e.get n).sv = .clo g cs → CloOk e a g cs (a n)
/-- a new slot's content, if it is a closure or a box for one -/
def FnNew (w : World) (e : Env) (a : Nat → Value) (I : Nat → Prop) (sv : SV) (v : Value) : Prop := ∀ g cs, sv = .clo g cs → CloOk e a g cs v
theorem Caps.go {e e' : Env} {a a' : Nat → Value} (h : ∀ n, (e.get n).ver ≤ (e'.get n).ver ∧ ((e'.get n).ver = (e.get n).ver → a' n = a n)) {cs : List (Nat × Nat)} {vs : List Value} (C : Caps e a cs vs) : Caps e' a' cs vs := by
  refine ⟨C.1, fun i c hc => ?_⟩
  obtain ⟨h1, h2⟩ := C.2 i c hc
  obtain ⟨h3, h4⟩ := h c.1
  refine ⟨Nat.le_trans h1 h3, fun k => ?_⟩
  have : (e.get c.1).ver = c.2 := by omega
  rw [h2 this, h4 (by omega)]
theorem FnSt.go {w w' : World} {e e' : Env} {a a' : Nat → Value} {I I' : Nat → Prop} (S : FnSt w a e I) (h : ∀ n, (e.get n).ver ≤ (e'.get n).ver ∧ ((e'.get n).ver = (e.get n).ver → a' n = a n))
    (hc : ∀ n g cs, (e'.get n).sv = .clo g cs → CloOk e a g cs (a' n)) : FnSt w' a' e' I' :=
  ⟨fun n g cs hn => by obtain ⟨vs, h1, h2⟩ := hc n g cs hn; exact ⟨vs, h1, h2.go h⟩⟩
theorem FnSt.same {w w' : World} {e : Env} {a : Nat → Value} {I I' : Nat → Prop} (S : FnSt w a e I) : FnSt w' a e I' := ⟨S.clo⟩
theorem FnSt.env {w : World} {e e' : Env} {a : Nat → Value} {I : Nat → Prop} (S : FnSt w a e I) (h : ∀ n, e'.get n = e.get n) : FnSt w a e' I :=
  S.go (fun n => ⟨by rw [h]; exact Nat.le_refl _, fun _ => rfl⟩) (fun n g cs hn => S.clo n g cs (by rw [← h]; exact hn))
theorem FnSt.put {w : World} {e : Env} {a : Nat → Value} {I : Nat → Prop} (S : FnSt w a e I) {d : Nat} {z : Slot} {v : Value} (hv : (e.get d).ver ≤ z.ver ∧ (z.ver = (e.get d).ver → v = a d)) (hz : FnNew w e a I z.sv v) : FnSt w (upd a d v) (e.set d z) I := by
  refine S.go (fun n => ?_) (fun n g cs hn => ?_)
  · by_cases c : n = d
    · subst c; rw [Env.get_set, if_pos rfl]; exact ⟨hv.1, fun k => by simp only [upd, if_true]; exact hv.2 k⟩
    · rw [Env.get_set, if_neg c]; exact ⟨Nat.le_refl _, fun _ => by simp only [upd, if_neg c]⟩
  · rw [Env.get_set] at hn
    by_cases c : n = d
    · subst c; rw [if_pos rfl] at hn; simp only [upd, if_true]; exact hz g cs hn
    · rw [if_neg c] at hn; simp only [upd, if_neg c]; exact S.clo n g cs hn

/-- the slots outside H are what the machine holds; Ω: blocks in flight -/
structure St (w : World) (a : Nat → Value) (e : Env) (γ : Nat → Gs) (I F H Ω : Nat → Prop) : Prop where
  slot : ∀ n, ¬ H n → SlotOk w I F (e.get n) (a n) (γ n)
  ref : ∀ n k r v s d p t, (e.get n).sv = .ref k r v s d p t → RefSt (e.get r) (γ r) k v s d p t (a n)
  sep : ∀ n n' b, ¬ H n → ¬ H n' → n ≠ n' → OwnS (e.get n) (γ n) b → ¬ OwnS (e.get n') (γ n') b
  flt : ∀ n b, ¬ H n → OwnS (e.get n) (γ n) b → ¬ Ω b
  lv : ∀ n b, ¬ H n → OwnS (e.get n) (γ n) b → F b ∧ ¬ I b ∧ b < w.heap.size
  lvΩ : ∀ b, Ω b → F b ∧ ¬ I b ∧ b < w.heap.size
  imm : ∀ b, I b → b < w.heap.size
  new : ∀ b, w.heap.size ≤ b → F b
  fn : FnSt w a e I

theorem upd_self {α : Type} (f : Nat → α) (n : Nat) (x : α) : upd f n x n = x := by simp [upd]
theorem upd_ne {α : Type} (f : Nat → α) {n k : Nat} (x : α) (h : k ≠ n) : upd f n x k = f k := by simp [upd, h]
theorem get_set_self (e : Env) (n : Nat) (z : Slot) : (e.set n z).get n = z := by rw [Env.get_set, if_pos rfl]
theorem get_set_ne (e : Env) {n k : Nat} (z : Slot) (h : k ≠ n) : (e.set n z).get k = e.get k := by rw [Env.get_set, if_neg h]

section
variable {w w' : World} {a : Nat → Value} {e : Env} {γ : Nat → Gs} {I I' F H Ω Ω' : Nat → Prop}

theorem St.drop (S : St w a e γ I F H Ω) (h : ∀ b, Ω' b → Ω b) : St w a e γ I F H Ω' :=
  ⟨S.slot, S.ref, S.sep, fun n b hn hb k => S.flt n b hn hb (h b k), S.lv, fun b hb => S.lvΩ b (h b hb), S.imm, S.new, S.fn⟩
theorem St.env (S : St w a e γ I F H Ω) {e' : Env} (h : ∀ n, e'.get n = e.get n) : St w a e' γ I F H Ω :=
  ⟨fun n hn => by rw [h]; exact S.slot n hn, fun n k r v s d p t hr => by rw [h] at hr ⊢; exact S.ref n k r v s d p t hr,
    fun n n' b => by rw [h, h]; exact S.sep n n' b, fun n b => by rw [h]; exact S.flt n b, fun n b => by rw [h]; exact S.lv n b, S.lvΩ, S.imm, S.new, S.fn.env h⟩
theorem SlotOk.frame {z : Slot} {v : Value} {γ : Gs} (h : SlotOk w I F z v γ) (hb : ∀ b, OwnS z γ b ∨ I b → w'.heap[b]? = w.heap[b]?) : SlotOk w' I F z v γ := by
  unfold SlotOk at h ⊢
  unfold OwnS at hb
  obtain ⟨ve, sv, dv, z⟩ := z
  cases z with
  | val k t m x =>
    obtain ⟨h1, h2, h3, h4⟩ := h
    cases k with
    | reg => exact ⟨h1, h2.frame hb, h3, h4⟩
    | tup => exact ⟨h1, h2.frame hb, h3, h4⟩
    | box =>
      obtain ⟨a, C, te, ha, hs, hC, hat, hno⟩ := h4
      have hs' := hb a.block (.inl (.inl ⟨a, ha, rfl⟩))
      refine ⟨h1, h2.frame fun b hb' => hb b (hb'.imp .inr id), h3, a, C, te, ha, hs, by rw [hs']; exact hC, hat.frame fun d hd => ?_, hno⟩
      rw [ha] at hd; cases hd; exact hs'
    | map =>
      obtain ⟨e1, e2, e3, e4, b, es, clock, l, ha, hC, hl⟩ := h4
      refine ⟨h1, h2.frame fun b hb' => hb b (hb'.imp .inr id), h3, e1, e2, e3, e4, b, es, clock, l, ha, by rw [hb b (.inl (.inl ⟨_, ha, rfl⟩))]; exact hC, hl⟩
    | pin f =>
      obtain ⟨e1, a, C, te, fz, ha, hs, hC, hat, hI⟩ := h4
      have hs' := hb a.block (.inr hI)
      refine ⟨h1, h2.frame hb, h3, e1, a, C, te, fz, ha, hs, by rw [hs']; exact hC, hat.frame fun d hd => ?_, hI⟩
      rw [ha] at hd; cases hd; exact hs'
  | _ => exact h
theorem SlotOk.mono {z : Slot} {v : Value} {γ : Gs} (h : SlotOk w I F z v γ) (hI : ∀ b, I b → I' b) : SlotOk w I' F z v γ := by
  unfold SlotOk at h ⊢
  obtain ⟨ve, sv, dv, z⟩ := z
  cases z with
  | val k t m x =>
    obtain ⟨h1, h2, h3, h4⟩ := h
    refine ⟨h1, h2.mono hI fun _ _ h => h, h3, ?_⟩
    cases k with
    | pin f =>
      obtain ⟨e1, a, C, te, fz, ha, hs, hC, hat, hI'⟩ := h4
      exact ⟨e1, a, C, te, fz, ha, hs, hC, hat, hI _ hI'⟩
    | _ => exact h4
  | _ => exact h
/-- the world goes on; what is known here stays -/
theorem St.frame (S : St w a e γ I F H Ω) (hs : w.heap.size ≤ w'.heap.size) (hb : ∀ b, b < w.heap.size → ((∃ n, ¬ H n ∧ OwnS (e.get n) (γ n) b) ∨ I b) → w'.heap[b]? = w.heap[b]?) : St w' a e γ I F H Ω :=
  ⟨fun n hn => (S.slot n hn).frame fun b h => h.elim (fun h => hb b (S.lv n b hn h).2.2 (.inl ⟨n, hn, h⟩)) fun h => hb b (S.imm b h) (.inr h), S.ref, S.sep, S.flt,
    fun n b hn h => ⟨(S.lv n b hn h).1, (S.lv n b hn h).2.1, Nat.lt_of_lt_of_le (S.lv n b hn h).2.2 hs⟩,
    fun b h => ⟨(S.lvΩ b h).1, (S.lvΩ b h).2.1, Nat.lt_of_lt_of_le (S.lvΩ b h).2.2 hs⟩, fun b h => Nat.lt_of_lt_of_le (S.imm b h) hs, fun b h => S.new b (Nat.le_trans hs h), S.fn.same⟩
/-- blocks in flight are given to all -/
theorem St.shut (S : St w a e γ I F H Ω) (hI : ∀ b, I b → I' b) (hI' : ∀ b, I' b → I b ∨ Ω b) : St w a e γ I' F H (fun b => Ω b ∧ ¬ I' b) :=
  ⟨fun n hn => (S.slot n hn).mono hI, S.ref, S.sep, fun n b hn h k => S.flt n b hn h k.1,
    fun n b hn h => ⟨(S.lv n b hn h).1, fun k => (hI' b k).elim (S.lv n b hn h).2.1 (S.flt n b hn h), (S.lv n b hn h).2.2⟩,
    fun b h => ⟨(S.lvΩ b h.1).1, h.2, (S.lvΩ b h.1).2.2⟩, fun b h => (hI' b h).elim (S.imm b) fun h => (S.lvΩ b h).2.2, S.new, S.fn.same⟩
/-- a slot is opened: what it owns is in flight -/
theorem St.opened (S : St w a e γ I F H Ω) (r : Nat) (hr : ¬ H r) : St w a e γ I F (fun n => H n ∨ n = r) (fun b => Ω b ∨ OwnS (e.get r) (γ r) b) :=
  ⟨fun n hn => S.slot n fun k => hn (.inl k), S.ref, fun n n' b hn hn' => S.sep n n' b (fun k => hn (.inl k)) fun k => hn' (.inl k),
    fun n b hn h k => k.elim (S.flt n b (fun k => hn (.inl k)) h) fun k => S.sep n r b (fun k => hn (.inl k)) hr (fun c => hn (.inr c)) h k,
    fun n b hn h => S.lv n b (fun k => hn (.inl k)) h, fun b h => h.elim (S.lvΩ b) fun h => S.lv r b hr h, S.imm, S.new, S.fn⟩

/-- what was told of a slot's parts is told still -/
structure Keeps (z z' : Slot) (γ γ' : Gs) : Prop where
  past : ∀ v s d, past v s d z → Den.past v s d z'
  ref : ∀ k p t v s d kk T M X y, Den.past v s d z → refOk k p t v s d z' = true → z.sv = .val kk T M X → (refOk k p t v s d z = true → RefOk k kk T X γ p t y) →
    ∃ kk' T' M' X', z'.sv = .val kk' T' M' X' ∧ RefOk k kk' T' X' γ' p t y
  no : ∀ k p t v s d, Den.past v s d z → refOk k p t v s d z' = true → refOk k p t v s d z = true
/-- an open slot is closed with new data -/
theorem St.closed (S : St w a e γ I F H Ω) {r : Nat} (hr : H r) {z : Slot} {γ' : Gs} {v : Value} (hz : SlotOk w I F z v γ') (hv : v = a r) (ho : ∀ b, OwnS z γ' b → Ω b)
    (hk : ∀ k v s d p t y, RefSt (e.get r) (γ r) k v s d p t y → RefSt z γ' k v s d p t y) (hzr : ∀ k r v s d p t, z.sv ≠ .ref k r v s d p t) (hzf : FnNew w e a I z.sv v := by exact fun _ _ h => (by cases h)) :
    St w a (e.set r z) (upd γ r γ') I F (fun n => H n ∧ n ≠ r) (fun b => Ω b ∧ ¬ OwnS z γ' b) := by
  refine ⟨fun n hn => ?_, fun n k r' v s d p t h => ?_, fun n n' b hn hn' hne h h' => ?_, fun n b hn h k => ?_, fun n b hn h => ?_, fun b h => S.lvΩ b h.1, S.imm, S.new, ?_⟩
  rotate_right
  · have hp : past (e.get r).ver 0 0 z := (hk .ali (e.get r).ver 0 0 [.at 0] (.int .i64) undef ⟨⟨Nat.le_refl _, fun _ => ⟨Nat.zero_le _, fun _ => Nat.zero_le _⟩⟩, fun c => by simp [refOk, hasAt, Ty.isSl] at c⟩).1
    have := S.fn.put (d := r) (z := z) (v := v) ⟨hp.1, fun _ => hv⟩ hzf
    have e1 : upd a r v = a := by
      funext n
      unfold upd
      split
      · rename_i c; rw [c, hv]
      · rfl
    rwa [e1] at this
  · by_cases e1 : n = r
    · subst e1; rw [get_set_self, upd_self, ← hv]; exact hz
    · rw [get_set_ne _ _ e1, upd_ne _ _ e1]; exact S.slot n fun k => hn ⟨k, e1⟩
  · by_cases e1 : n = r
    · subst e1; rw [get_set_self] at h; exact absurd h (hzr _ _ _ _ _ _ _)
    · rw [get_set_ne _ _ e1] at h
      have := S.ref n k r' v s d p t h
      by_cases e2 : r' = r
      · subst e2; rw [get_set_self, upd_self]; exact hk _ _ _ _ _ _ _ this
      · rw [get_set_ne _ _ e2, upd_ne _ _ e2]; exact this
  · by_cases e1 : n = r
    · subst e1
      have e2 : n' ≠ n := fun c => hne c.symm
      rw [get_set_self, upd_self] at h
      rw [get_set_ne _ _ e2, upd_ne _ _ e2] at h'
      exact S.flt n' b (fun k => hn' ⟨k, e2⟩) h' (ho b h)
    · rw [get_set_ne _ _ e1, upd_ne _ _ e1] at h
      by_cases e2 : n' = r
      · subst e2; rw [get_set_self, upd_self] at h'
        exact S.flt n b (fun k => hn ⟨k, e1⟩) h (ho b h')
      · rw [get_set_ne _ _ e2, upd_ne _ _ e2] at h'
        exact S.sep n n' b (fun k => hn ⟨k, e1⟩) (fun k => hn' ⟨k, e2⟩) hne h h'
  · by_cases e1 : n = r
    · subst e1; rw [get_set_self, upd_self] at h; exact k.2 h
    · rw [get_set_ne _ _ e1, upd_ne _ _ e1] at h; exact S.flt n b (fun k => hn ⟨k, e1⟩) h k.1
  · by_cases e1 : n = r
    · subst e1; rw [get_set_self, upd_self] at h; exact S.lvΩ b (ho b h)
    · rw [get_set_ne _ _ e1, upd_ne _ _ e1] at h; exact S.lv n b (fun k => hn ⟨k, e1⟩) h
/-- a slot is written anew -/
theorem St.write (S : St w a e γ I F H Ω) (d : Nat) (hd : ¬ H d) {sv : SV} {γ' : Gs} {v : Value} (hz : SlotOk w I F ⟨(e.get d).ver + 1, 0, 0, sv⟩ v γ')
    (ho : ∀ b, OwnS ⟨(e.get d).ver + 1, 0, 0, sv⟩ γ' b → Ω b)
    (hr : ∀ k r v' s d' p t, sv = .ref k r v' s d' p t → RefSt (e.get r) (γ r) k v' s d' p t v) (hf : FnNew w e a I sv v := by exact fun _ _ h => (by cases h)) :
    St w (upd a d v) (e.set d ⟨(e.get d).ver + 1, 0, 0, sv⟩) (upd γ d γ') I F H (fun b => Ω b ∧ ¬ OwnS ⟨(e.get d).ver + 1, 0, 0, sv⟩ γ' b) := by
  have old : ∀ k v s d' p t y, RefSt (e.get d) (γ d) k v s d' p t y → RefSt ⟨(e.get d).ver + 1, 0, 0, sv⟩ γ' k v s d' p t y := by
    intro k v s d' p t y h
    have hp := h.1.1
    refine ⟨⟨by simp only; omega, fun c => by simp only at c; omega⟩, fun c => ?_⟩
    simp only [refOk, Bool.and_eq_true, decide_eq_true_eq] at c
    omega
  refine ⟨fun n hn => ?_, fun n k r' v s d' p t h => ?_, fun n n' b hn hn' hne h h' => ?_, fun n b hn h k => ?_, fun n b hn h => ?_, fun b h => S.lvΩ b h.1, S.imm, S.new, S.fn.put ⟨Nat.le_succ _, fun k => absurd k (Nat.succ_ne_self _)⟩ hf⟩
  · by_cases e1 : n = d
    · subst e1; rw [get_set_self, upd_self, upd_self]; exact hz
    · rw [get_set_ne _ _ e1, upd_ne _ _ e1, upd_ne _ _ e1]; exact S.slot n hn
  · by_cases e1 : n = d
    · subst e1
      rw [get_set_self] at h
      rw [upd_self]
      have := hr k r' v s d' p t h
      by_cases e2 : r' = n
      · subst e2; rw [get_set_self, upd_self]; exact old _ _ _ _ _ _ _ this
      · rw [get_set_ne _ _ e2, upd_ne _ _ e2]; exact this
    · rw [get_set_ne _ _ e1] at h
      rw [upd_ne _ _ e1]
      have := S.ref n k r' v s d' p t h
      by_cases e2 : r' = d
      · subst e2; rw [get_set_self, upd_self]; exact old _ _ _ _ _ _ _ this
      · rw [get_set_ne _ _ e2, upd_ne _ _ e2]; exact this
  · by_cases e1 : n = d
    · subst e1
      have e2 : n' ≠ n := fun c => hne c.symm
      rw [get_set_self, upd_self] at h
      rw [get_set_ne _ _ e2, upd_ne _ _ e2] at h'
      exact S.flt n' b hn' h' (ho b h)
    · rw [get_set_ne _ _ e1, upd_ne _ _ e1] at h
      by_cases e2 : n' = d
      · subst e2; rw [get_set_self, upd_self] at h'
        exact S.flt n b hn h (ho b h')
      · rw [get_set_ne _ _ e2, upd_ne _ _ e2] at h'
        exact S.sep n n' b hn hn' hne h h'
  · by_cases e1 : n = d
    · subst e1; rw [get_set_self, upd_self] at h; exact k.2 h
    · rw [get_set_ne _ _ e1, upd_ne _ _ e1] at h; exact S.flt n b hn h k.1
  · by_cases e1 : n = d
    · subst e1; rw [get_set_self, upd_self] at h; exact S.lvΩ b (ho b h)
    · rw [get_set_ne _ _ e1, upd_ne _ _ e1] at h; exact S.lv n b hn h
end
end Go.Den
/-
  What the evaluator's small steps do to the state: reading, handing over, writing a slot.
-/
namespace Go.Den
open Go
set_option linter.unusedVariables false
set_option linter.unusedSimpArgs false

/-! ### rows that lie where they lay -/
def Sim : Ty → G → G → Prop
  | .one a, g, h => Sim a g h
  | .cons a b, g, h => Sim a g.fst h.fst ∧ Sim b g.snd h.snd
  | .sl e, g, h => g.addr = h.addr ∧ g.len = h.len ∧ g.cap = h.cap ∧ ∀ i, i < g.len → Sim e (g.kid i) (h.kid i)
  | _, _, _ => True
theorem Sim.refl : ∀ (t : Ty) (g : G), Sim t g g
  | .int _, _ => trivial
  | .bool, _ => trivial
  | .str, _ => trivial
  | .unit, _ => trivial
  | .one a, g => Sim.refl a g
  | .cons a b, g => ⟨Sim.refl a _, Sim.refl b _⟩
  | .sl e, g => ⟨rfl, rfl, rfl, fun i _ => Sim.refl e _⟩
theorem Sim.flat : ∀ {t : Ty} {g h : G}, t.flat = true → Sim t g h
  | .int _, _, _, _ => trivial
  | .bool, _, _, _ => trivial
  | .str, _, _, _ => trivial
  | .unit, _, _, _ => trivial
  | .one a, _, _, hf => Sim.flat (t := a) hf
  | .cons a b, _, _, hf => by
    simp only [Ty.flat, Bool.and_eq_true] at hf
    exact ⟨Sim.flat hf.1, Sim.flat hf.2⟩
  | .sl e, _, _, hf => by cases hf
theorem Sim.rows : ∀ {t : Ty} {x y : t.den} {g h : G}, t.rowsFlat = true → cells t x g = cells t y h → Sim t g h
  | .int _, _, _, _, _, _, _ => trivial
  | .bool, _, _, _, _, _, _ => trivial
  | .str, _, _, _, _, _, _ => trivial
  | .unit, _, _, _, _, _, _ => trivial
  | .one a, _, _, _, _, hf, hc => Sim.rows (t := a) hf hc
  | .cons a b, _, _, _, _, hf, hc => by
    simp only [Ty.rowsFlat, Bool.and_eq_true] at hf
    obtain ⟨h1, h2⟩ := List.append_inj hc (by rw [cells_len, cells_len])
    exact ⟨Sim.rows hf.1 h1, Sim.rows hf.2 h2⟩
  | .sl e, _, _, _, _, hf, hc => by
    simp only [cells, List.cons.injEq, Value.slice.injEq, and_true] at hc
    exact ⟨hc.1, hc.2.1, hc.2.2, fun i _ => Sim.flat hf⟩
theorem Sim.ok' : ∀ {T : Ty} {g h : G} {p : List Step}, Sim T g h → okP T g p → okP T h p
  | T, g, h, [], _, _ => by cases T <;> trivial
  | .one a, g, h, .l :: p, s, k => Sim.ok' (T := a) s k
  | .cons a b, g, h, .l :: p, s, k => Sim.ok' (T := a) s.1 k
  | .cons a b, g, h, .r :: p, s, k => Sim.ok' (T := b) s.2 k
  | .sl e, g, h, .at i :: p, s, k => ⟨s.2.1 ▸ k.1, Sim.ok' (T := e) (s.2.2.2 i k.1) k.2⟩
  | .int _, _, _, _ :: _, _, k => by simp [Den.okP] at k
  | .bool, _, _, _ :: _, _, k => by simp [Den.okP] at k
  | .str, _, _, _ :: _, _, k => by simp [Den.okP] at k
  | .unit, _, _, _ :: _, _, k => by simp [Den.okP] at k
  | .one _, _, _, .r :: _, _, k => k.elim
  | .one _, _, _, .at _ :: _, _, k => k.elim
  | .cons _ _, _, _, .at _ :: _, _, k => k.elim
  | .sl _, _, _, .l :: _, _, k => k.elim
  | .sl _, _, _, .r :: _, _, k => k.elim
theorem Sim.place' : ∀ {T : Ty} {g h : G} {p : List Step} {c : Option Addr}, Sim T g h → okP T g p → Den.place T h c p = Den.place T g c p
  | T, g, h, [], _, _, _ => by cases T <;> rfl
  | .one a, g, h, .l :: p, _, s, k => Sim.place' (T := a) s k
  | .cons a b, g, h, .l :: p, _, s, k => Sim.place' (T := a) s.1 k
  | .cons a b, g, h, .r :: p, _, s, k => Sim.place' (T := b) s.2 k
  | .sl e, g, h, .at i :: p, _, s, k => by
    simp only [Den.place, ← s.1]
    exact Sim.place' (T := e) (s.2.2.2 i k.1) k.2
  | .int _, _, _, _ :: _, _, _, k => by simp [Den.okP] at k
  | .bool, _, _, _ :: _, _, _, k => by simp [Den.okP] at k
  | .str, _, _, _ :: _, _, _, k => by simp [Den.okP] at k
  | .unit, _, _, _ :: _, _, _, k => by simp [Den.okP] at k
  | .one _, _, _, .r :: _, _, _, k => k.elim
  | .one _, _, _, .at _ :: _, _, _, k => k.elim
  | .cons _ _, _, _, .at _ :: _, _, _, k => k.elim
  | .sl _, _, _, .l :: _, _, _, k => k.elim
  | .sl _, _, _, .r :: _, _, _, k => k.elim
section
variable {w : World} {I F : Nat → Prop} {T : Ty} {N : Md} {X : T.den} {g : G} {p : List Step} {t : Ty} {m : Md} {x : t.den} {h : G}
theorem Way.sim (W : Way T N X g p t m x h) : ∀ {g' : G}, Sim T g g' → Sim t h (gsub T g' p) := by
  induction W with
  | @nil T N X g => intro g' s; cases T <;> exact s
  | one _ ih => exact fun s => ih s
  | l _ ih => exact fun s => ih s.1
  | r _ ih => exact fun s => ih s.2
  | own hi _ ih => exact fun s => ih (s.2.2.2 _ hi)
  | sh hi _ ih => exact fun s => ih (s.2.2.2 _ hi)
theorem Way.simPut (W : Way T N X g p t m x h) : ∀ {h' : G}, Sim t h h' → Sim T g (gput T g p h') := by
  induction W with
  | @nil T N X g => intro g' s; cases T <;> exact s
  | one _ ih => exact fun s => ih s
  | l _ ih => exact fun s => ⟨ih s, Sim.refl _ _⟩
  | r _ ih => exact fun s => ⟨Sim.refl _ _, ih s⟩
  | @own e me X g i p t m x h hi _ ih =>
    intro h' s
    refine ⟨rfl, rfl, rfl, fun j hj => ?_⟩
    simp only [gput, G.kid_hd]
    by_cases c : j = i
    · subst c; rw [if_pos rfl]; exact ih s
    · rw [if_neg c]; exact Sim.refl _ _
  | @sh e me X g i p t m x h hi _ ih =>
    intro h' s
    refine ⟨rfl, rfl, rfl, fun j hj => ?_⟩
    simp only [gput, G.kid_hd]
    by_cases c : j = i
    · subst c; rw [if_pos rfl]; exact ih s
    · rw [if_neg c]; exact Sim.refl _ _
end
theorem okP_noat : ∀ {T : Ty} {p : List Step} (g h : G), hasAt p = false → okP T g p → okP T h p
  | T, [], g, h, _, _ => by cases T <;> trivial
  | .one a, .l :: p, g, h, s, k => okP_noat (T := a) _ _ s k
  | .cons a b, .l :: p, g, h, s, k => okP_noat (T := a) _ _ s k
  | .cons a b, .r :: p, g, h, s, k => okP_noat (T := b) _ _ s k
  | .sl e, .at i :: p, g, h, s, k => by cases s
  | .int _, _ :: _, _, _, _, k => by simp [okP] at k
  | .bool, _ :: _, _, _, _, k => by simp [okP] at k
  | .str, _ :: _, _, _, _, k => by simp [okP] at k
  | .unit, _ :: _, _, _, _, k => by simp [okP] at k
  | .one _, .r :: _, _, _, _, k => k.elim
  | .one _, .at _ :: _, _, _, _, k => k.elim
  | .cons _ _, .at _ :: _, _, _, _, k => k.elim
  | .sl _, .l :: _, _, _, _, k => k.elim
  | .sl _, .r :: _, _, _, _, k => k.elim
/-- a part's type and mode hang on the whole's type and mode alone -/
theorem sub_any : ∀ {T : Ty} {N : Md} {X : T.den} {p : List Step} {z : Sub} (X' : T.den), sub T N X p = some z → ∃ x', sub T N X' p = some ⟨z.t, z.m, x'⟩
  | T, N, X, [], z, X', hs => by
    have : z = ⟨T, N, X⟩ := by cases T <;> (simp only [sub, Option.some.injEq] at hs; exact hs.symm)
    subst this
    exact ⟨X', by cases T <;> rfl⟩
  | .one a, N, X, .l :: p, z, X', hs => sub_any (T := a) X' hs
  | .cons a b, N, X, .l :: p, z, X', hs => sub_any (T := a) X'.1 hs
  | .cons a b, N, X, .r :: p, z, X', hs => sub_any (T := b) X'.2 hs
  | .sl e, N, X, .at i :: p, z, X', hs => by
    cases N with
    | own me => exact sub_any (T := e) (N := me) (List.getD X' i e.dflt) hs
    | sh o => exact sub_any (T := e) (N := .sh o) (List.getD X' i e.dflt) hs
    | pr a b => cases hs
    | gone => cases hs
  | .int _, _, _, _ :: _, _, _, hs => by simp [sub] at hs
  | .bool, _, _, _ :: _, _, _, hs => by simp [sub] at hs
  | .str, _, _, _ :: _, _, _, hs => by simp [sub] at hs
  | .unit, _, _, _ :: _, _, _, hs => by simp [sub] at hs
  | .one _, _, _, .r :: _, _, _, hs => by cases hs
  | .one _, _, _, .at _ :: _, _, _, hs => by cases hs
  | .cons _ _, _, _, .at _ :: _, _, _, hs => by cases hs
  | .sl _, _, _, .l :: _, _, _, hs => by cases hs
  | .sl _, _, _, .r :: _, _, _, hs => by cases hs
/-- a part may be told with the mode that owns all -/
theorem sub_mine : ∀ {T : Ty} {N : Md} {X : T.den} {p : List Step} {z : Sub}, sub T N X p = some z → sub T T.mine X p = some ⟨z.t, z.t.mine, z.x⟩
  | T, N, X, [], z, hs => by
    have : z = ⟨T, N, X⟩ := by cases T <;> (simp only [sub, Option.some.injEq] at hs; exact hs.symm)
    subst this
    cases T <;> rfl
  | .one a, N, X, .l :: p, z, hs => sub_mine (T := a) hs
  | .cons a b, N, X, .l :: p, z, hs => sub_mine (T := a) hs
  | .cons a b, N, X, .r :: p, z, hs => sub_mine (T := b) hs
  | .sl e, N, X, .at i :: p, z, hs => by
    cases N with
    | own me => exact sub_mine (T := e) (N := me) hs
    | sh o => exact sub_mine (T := e) (N := .sh o) hs
    | pr a b => cases hs
    | gone => cases hs
  | .int _, _, _, _ :: _, _, hs => by simp [sub] at hs
  | .bool, _, _, _ :: _, _, hs => by simp [sub] at hs
  | .str, _, _, _ :: _, _, hs => by simp [sub] at hs
  | .unit, _, _, _ :: _, _, hs => by simp [sub] at hs
  | .one _, _, _, .r :: _, _, hs => by cases hs
  | .one _, _, _, .at _ :: _, _, hs => by cases hs
  | .cons _ _, _, _, .at _ :: _, _, hs => by cases hs
  | .sl _, _, _, .l :: _, _, hs => by cases hs
  | .sl _, _, _, .r :: _, _, hs => by cases hs

/-! ### references outlive what does not touch them -/
theorem RefSt.md {v s d : Nat} {k : VK} {T : Ty} {N N' : Md} {X : T.den} {γ : Gs} {k' : RK} {v' s' d' : Nat} {p : List Step} {t : Ty} {y : Value}
    (h : RefSt ⟨v, s, d, .val k T N X⟩ γ k' v' s' d' p t y) : RefSt ⟨v, s, d, .val k T N' X⟩ γ k' v' s' d' p t y := by
  refine ⟨h.1, fun c => ?_⟩
  obtain ⟨kk, T', M, X', h1, h2⟩ := h.2 c
  cases h1
  exact ⟨_, _, _, _, rfl, h2⟩
theorem RefSt.deep {v s d : Nat} {k : VK} {T : Ty} {N N' : Md} {X X' : T.den} {γ γ' : Gs} {k' : RK} {v' s' d' : Nat} {p : List Step} {t : Ty} {y : Value}
    (h : RefSt ⟨v, s, d, .val k T N X⟩ γ k' v' s' d' p t y) (hb : γ'.b = γ.b) : RefSt ⟨v, s + 1, 0, .val k T N' X'⟩ γ' k' v' s' d' p t y := by
  obtain ⟨⟨h1, h2⟩, h3⟩ := h
  simp only at h1 h2
  refine ⟨⟨h1, fun c => ⟨by simp only at c ⊢; have := (h2 c).1; omega, fun c' => by simp only at c c'; have := (h2 c).1; omega⟩⟩, fun c => ?_⟩
  simp only [refOk, Bool.and_eq_true, decide_eq_true_eq] at c
  obtain ⟨c1, c2⟩ := c
  cases k' with
  | ali =>
    simp only [Bool.and_eq_true, decide_eq_true_eq] at c2
    have := (h2 c1.symm).1
    omega
  | plc =>
    simp only [Bool.or_eq_true, Bool.not_eq_true', decide_eq_true_eq] at c2
    rcases c2 with c2 | c2
    · obtain ⟨kk, T', M, X'', e1, o1, m, x, o2, a, o3, o4⟩ := h3 (by simp [refOk, c1, c2])
      cases e1
      obtain ⟨x', o2'⟩ := sub_any X' o2
      have W := way o2 o1
      have o1' := okP_noat (T := T) γ.g γ'.g c2 o1
      have W' := way o2' o1'
      refine ⟨_, _, _, _, rfl, o1', m, x', o2', a, ?_, o4⟩
      rw [(W'.ofs c2).2.1, hb, ← (W.ofs c2).2.1]
      exact o3
    · have := (h2 c1.symm).1
      omega
  | clo g0 =>
    simp only [Bool.or_eq_true, Bool.not_eq_true', decide_eq_true_eq] at c2
    rcases c2 with c2 | c2
    · obtain ⟨kk, T', M, X'', e1, o1, m, x, o2, a, o3, o4⟩ := h3 (by simp [refOk, c1, c2])
      cases e1
      obtain ⟨x', o2'⟩ := sub_any X' o2
      have W := way o2 o1
      have o1' := okP_noat (T := T) γ.g γ'.g c2 o1
      have W' := way o2' o1'
      refine ⟨_, _, _, _, rfl, o1', m, x', o2', a, ?_, o4⟩
      rw [(W'.ofs c2).2.1, hb, ← (W.ofs c2).2.1]
      exact o3
    · have := (h2 c1.symm).1
      omega
theorem RefSt.shallow {v s d : Nat} {k : VK} {T : Ty} {N N' : Md} {X X' : T.den} {γ γ' : Gs} {k' : RK} {v' s' d' : Nat} {p : List Step} {t : Ty} {y : Value} {dv : Nat}
    (h : RefSt ⟨v, s, d, .val k T N X⟩ γ k' v' s' d' p t y) (hb : γ'.b = γ.b) (hs : Sim T γ.g γ'.g) (hd : dv = d + 1 ∨ (dv = d ∧ cells T X' γ'.g = cells T X γ.g)) (hlent : k.lent = false) :
    RefSt ⟨v, s, dv, .val k T N' X'⟩ γ' k' v' s' d' p t y := by
  obtain ⟨⟨h1, h2⟩, h3⟩ := h
  simp only at h1 h2
  refine ⟨⟨h1, fun c => ⟨(h2 c).1, fun c' => by have := (h2 c).2 c'; simp only; omega⟩⟩, fun c => ?_⟩
  simp only [refOk, Bool.and_eq_true, decide_eq_true_eq] at c
  obtain ⟨c1, c2⟩ := c
  cases k' with
  | plc =>
    obtain ⟨kk, T', M, X'', e1, o1, m, x, o2, a, o3, o4⟩ := h3 (by simp only [refOk, Bool.and_eq_true, decide_eq_true_eq]; exact ⟨c1, c2⟩)
    cases e1
    obtain ⟨x', o2'⟩ := sub_any X' o2
    exact ⟨_, _, _, _, rfl, hs.ok' o1, m, x', o2', a, by rw [hb, hs.place' o1]; exact o3, o4⟩
  | clo g0 =>
    obtain ⟨kk, T', M, X'', e1, o1, m, x, o2, a, o3, o4⟩ := h3 (by simp only [refOk, Bool.and_eq_true, decide_eq_true_eq]; exact ⟨c1, c2⟩)
    cases e1
    obtain ⟨x', o2'⟩ := sub_any X' o2
    exact ⟨_, _, _, _, rfl, hs.ok' o1, m, x', o2', a, by rw [hb, hs.place' o1]; exact o3, o4⟩
  | ali =>
    simp only [Bool.and_eq_true, decide_eq_true_eq, Bool.or_eq_true, Bool.not_eq_true'] at c2
    obtain ⟨c2, c3⟩ := c2
    have key : (t.isSl = true) ∨ (d = d' ∧ dv = d ∧ hasAt p = false) := by
      rcases c3 with c3 | ⟨c3, c4⟩
      · exact .inl c3
      · right
        have := (h2 c1.symm).2 c2.symm
        rcases hd with hd | hd
        · omega
        · exact ⟨by omega, hd.1, c4⟩
    obtain ⟨kk, T', M, X'', e1, o1, m, x, o2, o3⟩ := h3 (by
      simp only [refOk, Bool.and_eq_true, decide_eq_true_eq, Bool.or_eq_true, Bool.not_eq_true']
      exact ⟨c1, c2, key.imp id fun k => ⟨k.1, k.2.2⟩⟩)
    cases e1
    obtain ⟨x', o2'⟩ := sub_any X' o2
    have o1' := hs.ok' o1
    have W := way o2 o1
    have W' := way o2' o1'
    refine ⟨_, _, _, _, rfl, o1', m, x', o2', ?_⟩
    simp only at o3 ⊢
    rw [o3]
    split
    · rename_i hk
      obtain ⟨hk, rfl⟩ := hk
      obtain rfl : k = .tup := by cases k <;> first | rfl | (simp [VK.whole] at hk; done) | (simp [VK.lent] at hlent; done)
      simp only [kV]
      rcases key with key | key
      · have : t = T := by
          have : (⟨T, T.mine, X⟩ : Sub) = ⟨t, m, x⟩ := by
            have h0 : sub T T.mine X [] = some ⟨T, T.mine, X⟩ := by cases T <;> rfl
            rw [h0] at o2; exact Option.some.inj o2
          exact (congrArg Sub.t this).symm
        subst this
        cases t <;> first | rfl | cases key
      · have hcells : cells T X γ.g = cells T X' γ'.g := by
          rcases hd with hd | hd
          · omega
          · exact hd.2.symm
        rw [tupV_congr hcells]
    · rcases key with key | key
      · have hsim := W.sim hs
        cases t with
        | sl e =>
          simp only [toV, Ty.agg, cells, List.headD_cons]
          simp only [hsim.1, hsim.2.1, hsim.2.2.1]
          rfl
        | _ => cases key
      · refine toV_congr (List.ext_getElem? fun i => ?_)
        by_cases hi : i < t.size
        · rw [← (W.ofs key.2.2).2.2 i hi, ← (W'.ofs key.2.2).2.2 i hi]
          rcases hd with hd | hd
          · omega
          · rw [hd.2]
        · rw [List.getElem?_eq_none (by rw [cells_len]; omega), List.getElem?_eq_none (by rw [cells_len]; omega)]
end Go.Den
