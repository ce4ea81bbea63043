import Derived.Test.YticlhjamafdmfaaLvI
set_option linter.unusedVariables false
set_option linter.unusedSimpArgs false
namespace Go.Lv

/-! ### Which variables hold rows that may grow: looked at ahead -/
abbrev OSet := List (Nat × Nat × Nat)

def killO (d : Option Nat) (O : OSet) : OSet := match d with | some d => O.filter fun p => p.1 != d | none => O
def killA (d : Option Nat) (A : List (Nat × Nat)) : List (Nat × Nat) := match d with | some d => A.filter fun p => p.1 != d && p.2 != d | none => A
def addO (d : Option Nat) (c n : Nat) (O : OSet) : OSet := match d with | some d => (d, c, n) :: O | none => O

/-- The place that is given up: the variable itself, or the one that it is a copy of. -/
def rootOf (O : OSet) (A : List (Nat × Nat)) (t n : Nat) : Option Nat :=
  if O.contains (t, 0, n) then some t else (A.find? (·.1 == t)).bind fun p => if O.contains (p.2, 0, n) then some p.2 else none
def dropO (s : Nat) (O : OSet) : OSet := O.filter fun p => !(p.1 == s && p.2.1 == 0)

def isNil : Value → Bool
  | .slice none _ _ => true
  | _ => false

/-- An operand that is handed over. -/
def takeO (O : OSet) (A : List (Nat × Nat)) (n : Nat) : Operand → Option OSet
  | .tmp t => (rootOf O A t n).map fun s => dropO s O
  | .const v => if isNil v then some O else none
  | _ => none

def takeArgs (A : List (Nat × Nat)) : List (Option Nat) → List Operand → OSet → Option OSet
  | [], _, O => some O
  | none :: ps, _ :: as, O => takeArgs A ps as O
  | some n :: ps, a :: as, O => (takeO O A n a).bind fun O => takeArgs A ps as O
  | _ :: _, [], _ => none

def elemSz (P : Program) (t : TypeId) : Option Nat := (elemOfT P t).bind (sizeT P)

def dstLt (N : Nat) : Option Nat → Bool
  | some d => decide (d < N)
  | none => true

/-- Who owns what a variable holds: itself, or the one that it is a copy of. -/
def ownerOf (O : OSet) (A : List (Nat × Nat)) (s c : Nat) : Option (Nat × Nat × Nat) :=
  match O.find? (fun p => p.1 == s && p.2.1 == c) with
  | some p => some p
  | none => (A.find? (·.1 == s)).bind fun q => O.find? (fun p => p.1 == q.2 && p.2.1 == c)

def chkOp1 (P : Program) (C : Cfg) (o : Oper) (O : OSet) (A : List (Nat × Nat)) : Option (OSet × List (Nat × Nat)) :=
  let d := o.dst
  let keep := some (killO d O, killA d A)
  if C.spec d o.op = true then keep else
  match o.op with
  | .move (.const v) | .assign (.const v) => if isNil v then (match elemSz P o.type with | some n => some (addO d 0 n (killO d O), killA d A) | none => keep) else keep
  | .move (.tmp s) => match d, o.guard with
    | some d', none => if s == d' then keep else some (killO d O, (d', s) :: killA d A)
    | _, _ => keep
  | .assign (.tmp s) => match d, ownerOf O A s 0 with
    | some d', some p => if s == d' || p.1 == d' then keep else some (addO d 0 p.2.2 (killO d (dropO p.1 O)), killA d A)
    | _, _ => keep
  | .extract (.tmp s) i => match d, ownerOf O A s (i + 1) with
    | some d', some p => if s == d' || p.1 == d' then keep else some (addO d 0 p.2.2 (killO d (O.filter fun q => !(q.1 == p.1 && q.2.1 == i + 1))), killA d A)
    | _, _ => keep
  | .buildSlice t _ _ => match elemSz P t with
    | some n => some (addO d 0 n (killO d O), killA d A)
    | none => none
  | .call { callee := .builtin .append, args, argTypes } =>
    match args.toList, argTypes.toList with
    | [b, _], [t, _] => (elemSz P t).bind fun n => (takeO O A n b).map fun O' => (addO d 0 n (killO d O'), killA d A)
    | _, _ => none
  | .call { callee := .value (.func g), args, .. } => (takeArgs A (C.sig g).ps args.toList O).map fun O' => ((match d with | some d => (C.sig g).rs.map fun p => (d, p.1, p.2) | none => []) ++ killO d O', killA d A)
  | .call { callee := .value _, .. } => keep
  | _ => keep

def chkOp (P : Program) (C : Cfg) (N : Nat) (o : Oper) (O : OSet) (A : List (Nat × Nat)) : Option (OSet × List (Nat × Nat)) := if dstLt N o.dst = true then chkOp1 P C o O A else none

def chkOps (P : Program) (C : Cfg) (N : Nat) : List Oper → OSet → List (Nat × Nat) → Option (OSet × List (Nat × Nat))
  | [], O, A => some (O, A)
  | o :: r, O, A => (chkOp P C N o O A).bind fun p => chkOps P C N r p.1 p.2

def interO (O O' : OSet) : OSet := O.filter fun p => O'.contains p
def subO (O O' : OSet) : Bool := O.all fun p => O'.contains p
def joinO : Option OSet → Option OSet → Option OSet
  | none, x => x
  | x, none => x
  | some O, some O' => some (interO O O')

/-! ### A statement that draws its order -/
def looksE (all : Array Oper) (o : Oper) : List Nat :=
  (o.op.operands.toList.filterMap fun | .tmp t => some t | _ => none) ++
  (match o.guard with
   | some (g, _) => ((all[g]?).bind (·.dst)).toList
   | none => [])

/-- Copies that stand when operation i comes up. -/
def aliasE (all : Array Oper) (i : Nat) : List (Nat × Nat) :=
  all.toList.zipIdx.filterMap fun (o, k) => match o.op, o.dst, o.guard with
    | .move (.tmp s), some d, none => if hasE all i k = true ∧ (all.toList.zipIdx.all fun (o', j) => !(o'.dst == some s) || (effOp o'.op && decide (i ≤ j))) = true then some (d, s) else none
    | _, _, _ => none

def drwOK (all : Array Oper) : Bool :=
  let l := all.toList.zipIdx
  (l.all fun (o, i) => (effOp o.op || pureOp o.op) && o.after.all fun e => decide (e.on < i)) &&
  decide ((all.toList.filterMap (·.dst)).Nodup) &&
  (l.all fun (o, i) => (looksE all o).all fun t => l.all fun (o', j) => !(o'.dst == some t) || hasE all i j || hasE all j i) &&
  (l.all fun (o, i) => !effOp o.op || l.all fun (o', j) => !(effOp o'.op) || !decide (j < i) || (l.any fun (o'', k) => effOp o''.op && decide (j ≤ k) && decide (k < i) && hasE all i k))

def chkEffs (P : Program) (C : Cfg) (N : Nat) (all : Array Oper) : Nat → List Oper → OSet → Option OSet
  | _, [], O => some O
  | i, o :: r, O => if effOp o.op = true then (chkOp P C N o O (aliasE all i)).bind fun p => chkEffs P C N all (i + 1) r p.1 else if dstLt N o.dst = true then chkEffs P C N all (i + 1) r O else none

def chkDraw (P : Program) (C : Cfg) (N : Nat) (all : Array Oper) (O : OSet) : Option OSet :=
  if drwOK all = true then chkEffs P C N all 0 all.toList (O.filter fun p => !(all.toList.any fun o => o.dst == some p.1 && !effOp o.op)) else none

abbrev ChkR := Option OSet × List (Nat × OSet)

/-- A round must hand on what it was given; else less is asked. -/
def fixLoop (f : OSet → Option ChkR) : Nat → OSet → Option ChkR
  | 0, _ => none
  | k + 1, O => match f O with
    | none => none
    | some (none, xs) => some (none, xs)
    | some (some O', xs) => if subO O O' = true then some (none, xs) else fixLoop f k (interO O O')

def chkCode (P : Program) (C : Cfg) (N : Nat) (ret : OSet → Bool) : Code → OSet → Option ChkR
  | .skip, O => some (some O, [])
  | .region _ ops false, O => (chkOps P C N ops.toList O []).map fun p => (some p.1, [])
  | .region _ ops true, O => (chkDraw P C N ops O).map fun O' => (some O', [])
  | .seq a b, O => match chkCode P C N ret a O with
    | some (some O1, xs) => (chkCode P C N ret b O1).map fun r => (r.1, xs ++ r.2)
    | r => r
  | .cond _ a b, O => match chkCode P C N ret a O, chkCode P C N ret b O with
    | some r1, some r2 => some (joinO r1.1 r2.1, r1.2 ++ r2.2)
    | _, _ => none
  | .block id a, O => (chkCode P C N ret a O).map fun r => (((r.2.filter (·.1 == id)).map (·.2)).foldl (fun x O => joinO x (some O)) r.1, r.2.filter (·.1 != id))
  | .loop a, O => fixLoop (chkCode P C N ret a) 4 O
  | .exit id, O => some (none, [(id, O)])
  | .ret, O => if ret O = true then some (none, []) else none
  | _, _ => none

def resT (fn : Func) (c : Nat) : Option Nat :=
  match fn.results.toList, c with
  | [.tmp t], 0 => some t
  | l, i + 1 => if 2 ≤ l.length then (match l[i]? with | some (.tmp t) => some t | _ => none) else none
  | _, _ => none

def retOK (fn : Func) (rs : List (Nat × Nat)) (O : OSet) : Bool :=
  (rs.all fun p => match resT fn p.1 with | some t => O.contains (t, 0, p.2) | none => false) &&
  rs.all fun p => rs.all fun q => p.1 == q.1 || !(resT fn p.1 == resT fn q.1)

def params0 : Nat → List (Option Nat) → OSet
  | _, [] => []
  | i, some n :: r => (i, 0, n) :: params0 (i + 1) r
  | i, none :: r => params0 (i + 1) r

/-- A function as a whole. -/
def chkFn (P : Program) (C : Cfg) (f : FuncId) : Bool :=
  match P.funcs[f]? with
  | some fn => match fn.body with
    | some c => match chkCode P (C.at f) fn.ntmps (retOK fn (C.sig f).rs) c (params0 0 (C.sig f).ps) with
      | some (some O, []) => retOK fn (C.sig f).rs O && !(fn.name == "runtime.NumGoroutine")
      | some (none, []) => !(fn.name == "runtime.NumGoroutine")
      | _ => false
    | none => false
  | none => false

end Go.Lv
