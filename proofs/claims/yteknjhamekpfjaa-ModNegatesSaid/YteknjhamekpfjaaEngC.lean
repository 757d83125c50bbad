/- The engine, part C: operations as this engine sees them, what each asks and answers ('vc'), and how they are read off a program's own operations ('absK'). Plain definitions. -/
import Derived.Test.YteknjhamekpfjaaEngB
import Derived.Still
set_option linter.unusedVariables false
set_option linter.unusedSimpArgs false
namespace Go.Eng
open Go.RowKit

/-- A constant as an abstract value. -/
def AV.ofCell (sz : Nat) : Value → AV
  | .slice none 0 0 => .sl .nil sz []
  | .string s => .str s.data.toList
  | x => .v x
def ofCells : List Nat → List Value → List AV
  | _, [] => []
  | [], v :: r => AV.ofCell 0 v :: ofCells [] r
  | s :: ss, v :: r => AV.ofCell s v :: ofCells ss r
def AV.ofConst (ss : List Nat) : Value → AV
  | .agg cs => if cs.all (·.oneCell') then .agg (ofCells ss cs.toList) else .any
  | x => AV.ofCell (ss.headD 0) x

inductive Y where
  | t (n : Nat)
  | c (v : AV)
def Y.of (G : Nat → AV) (ss : List Nat) : Operand → Y
  | .tmp n => .t n
  | .const v => .c (.ofConst ss v)
  | .global b => .c (G b)
  | .func n => .c (.fn n [])
def Fr.at (fr : Fr) : Y → Option AV
  | .t n => fr.get n
  | .c v => some v

inductive Leaf where
  | int | bool | str

inductive AK where
  | mv (x : Y)
  | pick (c a b : Y)
  | bin (op : BinOp) (x y : Y)
  | shf (op : BinOp) (x y : Y)
  | sbin (op : BinOp) (x y : Y)
  | isnil (neg sl : Bool) (x : Y)
  | eqc (neg : Bool) (n : Nat) (ls : List (Nat × Leaf)) (x y : Y)
  | eqb (neg : Bool) (x y : Y)
  | un (op : UnOp) (x : Y)
  | cvt (k : IntKind) (x : Y)
  | s2b (im : Bool) (x : Y)
  | b2s (x : Y)
  | len (x : Y)
  | slen (x : Y)
  | lenc (n : Nat)
  | mm (max : Bool) (x y : Y)
  | idxA (sz : Nat) (x i : Y)
  | idxP (n sz : Nat) (x i : Y)
  | idxG (n sz : Nat) (agg : Bool) (x i : Y)
  | idxS (x i : Y)
  | fldA (off : Nat) (x : Y)
  | fld (off sz : Nat) (agg : Bool) (x : Y)
  | load (sz : Nat) (agg : Bool) (x : Y)
  | store (sz : Nat) (x y : Y)
  | nck (x : Y)
  | slice (sz : Nat) (x : Y) (lo hi mx : Option Y)
  | sslice (x : Y) (lo hi : Option Y)
  | sliceP (n sz : Nat) (x : Y) (lo hi : Option Y)
  | ext (x : Y) (i : Nat)
  | call (f : FuncId) (xs : List Y)
  | callv (f : Y) (xs : List Y)
  | pcall (F : List Nat) (f : FuncId) (xs : List Y)
  | loadX (F : List Nat) (sz : Nat) (agg : Bool) (x : Y)
  | storeX (t : Nat) (sz : Nat) (x y : Y)
  | bad
  | carry (sub : Bool) (x y c : Y)
  | app (sz bytes : Nat) (x y : Y)
  | copy (sz : Nat) (x y : Y)
  | alloc (tag : Nat) (z : List AV)
  | box (im : Bool) (tag sz : Nat) (x : Y)
  | build (z : List AV) (parts : List (Nat × Nat × Y))
  | bsl (im : Bool) (tag len sz : Nat) (z : List AV) (parts : List (Nat × Nat × Y))
  | mks (im : Bool) (tag sz bytes : Nat) (z : List AV) (l c : Y)
  | mkfn (f : FuncId) (caps : List Y)

structure AO where
  dst : Option Nat
  g : Option (Nat × Bool)
  k : AK

inductive C where
  | skip
  | reg (ops : List AO)
  | seq (a b : C)
  | cond (c : Y) (a b : C)
  | block (id : Nat) (b : C)
  | loop (b : C)
  | frz
  | exit (id : Nat)
  | ret

/-! ### What each asks -/
def withAV (x : Option AV) (F : AV → Prop) : Prop := match x with
  | some v => F v
  | none => False
def withInt (x : Option AV) (F : IntKind → Int → Prop) : Prop := match x with
  | some (.v (.int k n)) => F k n
  | _ => False
def withBool (x : Option AV) (F : Bool → Prop) : Prop := match x with
  | some (.v (.bool b)) => F b
  | _ => False
def withStr (x : Option AV) (F : List UInt8 → Prop) : Prop := match x with
  | some (.str l) => F l
  | _ => False
def withSl (x : Option AV) (F : App → Nat → List (List AV) → Prop) : Prop := match x with
  | some (.sl app sz els) => F app sz els
  | _ => False
def withAgg (x : Option AV) (F : List AV → Prop) : Prop := match x with
  | some (.agg l) => F l
  | _ => False

def band (k : IntKind) (a b : Int) : Int := k.wrap (BitVec.ofInt k.bits a &&& BitVec.ofInt k.bits b).toNat
def bor (k : IntKind) (a b : Int) : Int := k.wrap (BitVec.ofInt k.bits a ||| BitVec.ofInt k.bits b).toNat
def bxor (k : IntKind) (a b : Int) : Int := k.wrap (BitVec.ofInt k.bits a ^^^ BitVec.ofInt k.bits b).toNat
def bandn (k : IntKind) (a b : Int) : Int := k.wrap (BitVec.ofInt k.bits a &&& ~~~ BitVec.ofInt k.bits b).toNat
def shl (k : IntKind) (a b : Int) : Int := k.wrap (a * 2 ^ (min b.toNat k.bits))
def shr (k : IntKind) (a b : Int) : Int := a.fdiv (2 ^ (min b.toNat k.bits))
def inot (k : IntKind) (a : Int) : Int := bxor k (if k.signed then -1 else k.max) a

def binVC (op : BinOp) (k : IntKind) (a b : Int) (K : AV → Prop) : Prop := match op with
  | .add => K (.int k (k.wrap (a + b)))
  | .sub => K (.int k (k.wrap (a - b)))
  | .mul => K (.int k (k.wrap (a * b)))
  | .quo => b ≠ 0 ∧ K (.int k (k.wrap (a.tdiv b)))
  | .rem => b ≠ 0 ∧ K (.int k (a.tmod b))
  | .and => K (.int k (band k a b))
  | .or => K (.int k (bor k a b))
  | .xor => K (.int k (bxor k a b))
  | .andNot => K (.int k (bandn k a b))
  | .eql => K (.bool (a == b))
  | .neq => K (.bool (a != b))
  | .lss => K (.bool (a < b))
  | .leq => K (.bool (a ≤ b))
  | .gtr => K (.bool (a > b))
  | .geq => K (.bool (a ≥ b))
  | _ => False
def shfVC (op : BinOp) (k : IntKind) (a b : Int) (K : AV → Prop) : Prop := match op with
  | .shl => 0 ≤ b ∧ K (.int k (shl k a b))
  | .shr => 0 ≤ b ∧ K (.int k (shr k a b))
  | _ => False
def sbinVC (op : BinOp) (a b : List UInt8) (K : AV → Prop) : Prop := match op with
  | .add => a.length + b.length < 9223372036854775808 ∧ K (.str (a ++ b))
  | .eql => K (.bool (a == b))
  | .neq => K (.bool (!(a == b)))
  | _ => False

def App.isNil : App → Bool
  | .nil => true
  | _ => false
def isnilS (x : Option AV) (K : Bool → Prop) : Prop := match x with
  | some (.sl app _ _) => K app.isNil
  | some (.osl _ _ _ _) => K false
  | _ => False
def isnilP (x : Option AV) (K : Bool → Prop) : Prop := match x with
  | some (.ptr _) => K false
  | some (.optr _ _ _) => K false
  | some (.v (.pointer none)) => K true
  | _ => False
def isnilVC (sl : Bool) (x : Option AV) (K : Bool → Prop) : Prop := match sl with
  | true => isnilS x K
  | false => isnilP x K

/-- Equal cells: whole numbers, bools, strings. -/
def eqCell : AV → AV → Bool
  | .v (.int _ a), .v (.int _ b) => a == b
  | .v (.bool a), .v (.bool b) => a == b
  | .str a, .str b => a == b
  | _, _ => false
def flat2 : Leaf → AV → AV → Bool
  | .int, .v (.int k _), .v (.int k' _) => k == k'
  | .bool, .v (.bool _), .v (.bool _) => true
  | .str, .str _, .str _ => true
  | _, _, _ => false
def eqAt (l m : List AV) : List (Nat × Leaf) → Bool
  | [] => true
  | (i, _) :: r => eqCell (l.getD i .any) (m.getD i .any) && eqAt l m r
def flatAt (l m : List AV) : List (Nat × Leaf) → Bool
  | [] => true
  | (i, k) :: r => flat2 k (l.getD i .any) (m.getD i .any) && flatAt l m r
def shiftL (o : Nat) (l : List (Nat × Leaf)) : List (Nat × Leaf) := l.map fun p => (o + p.1, p.2)

def AV.cells : AV → List AV
  | .agg l => l
  | x => [x]
/-- Surely the value of one cell. -/
def AV.one : AV → Bool
  | .v x => x.oneCell'
  | .agg _ | .tup _ | .any => false
  | _ => true
/-- Cells of an aggregate, or one that is a cell. -/
def AV.fits : AV → Bool
  | .agg _ => true
  | x => x.one

def partAV (agg : Bool) (sz : Nat) (cells : List AV) (off : Nat) : AV :=
  if agg then .agg ((cells.drop off).take sz) else cells.getD off .any

def fillAV (cells : List AV) : List (Nat × AV) → List AV
  | [] => cells
  | (off, x) :: r => fillAV (cells.take off ++ x.cells ++ cells.drop (off + x.cells.length)) r

def toByte : List AV → UInt8
  | [.v (.int _ n)] => UInt8.ofNat n.toNat
  | _ => 0
def b8 (c : UInt8) : List AV := [.int .u8 c.toNat]
def isByte : List AV → Bool
  | [.v (.int .u8 n)] => true
  | _ => false

def findObj (tag : Nat) : St → Option (Nat × List AV)
  | [] => none
  | .obj t b cells :: r => if t = tag then some (b, cells) else findObj tag r
  | _ :: r => findObj tag r
noncomputable def setObj (tag : Nat) (cells : List AV) (st : St) : St := List.rec (motive := fun _ => St) [] (fun s r ih => match s with
  | .obj t b c => match Nat.beq t tag with
    | true => .obj t b cells :: r
    | false => .obj t b c :: ih
  | .row a n sz => .row a n sz :: ih) st
def gtSeg (t : Nat) : Seg → Bool
  | .obj t' _ _ => decide (t < t')
  | .row _ _ _ => false
def allGt (t : Nat) (st : St) : Bool := st.all (gtSeg t)
/-- A new block: among the others in the order of the tags, behind what is older. -/
noncomputable def insObj (tag b : Nat) (cells : List AV) (st : St) : St := List.rec (motive := fun _ => St) [.obj tag b cells] (fun s r ih => match allGt tag (s :: r) with
  | true => .obj tag b cells :: s :: r
  | false => s :: ih) st
theorem natBeq_same {a b : Nat} (h : a = b) : Nat.beq a b = true := by subst h; exact Nat.beq_refl a
theorem natBeq_other {a b : Nat} (h : a ≠ b) : Nat.beq a b = false := by
  cases e : Nat.beq a b with
  | false => rfl
  | true => exact absurd (Nat.eq_of_beq_eq_true e) h
theorem setObj_nil (tag : Nat) (c : List AV) : setObj tag c [] = [] := rfl
theorem setObj_obj (tag : Nat) (cells : List AV) (t b : Nat) (c : List AV) (r : St) : setObj tag cells (.obj t b c :: r) = if t = tag then .obj t b cells :: r else .obj t b c :: setObj tag cells r := by
  show (match Nat.beq t tag with | true => _ | false => _ : St) = _
  by_cases h : t = tag
  · rw [if_pos h, natBeq_same h]
  · rw [if_neg h, natBeq_other h]; rfl
theorem setObj_row (tag : Nat) (cells : List AV) (a : App) (n sz : Nat) (r : St) : setObj tag cells (.row a n sz :: r) = .row a n sz :: setObj tag cells r := rfl
theorem insObj_nil (tag b : Nat) (c : List AV) : insObj tag b c [] = [.obj tag b c] := rfl
theorem insObj_cons (tag b : Nat) (c : List AV) (s : Seg) (r : St) : insObj tag b c (s :: r) = if allGt tag (s :: r) then .obj tag b c :: s :: r else s :: insObj tag b c r := by
  show (match allGt tag (s :: r) with | true => _ | false => _ : St) = _
  cases allGt tag (s :: r) <;> rfl
def withObj (st : St) (tag b : Nat) (F : List AV → Prop) : Prop := match findObj tag st with
  | some (b', cells) => b' = b ∧ F cells
  | none => False

def loadVC (sz : Nat) (agg : Bool) (x : Option AV) (st : St) (K : AV → Prop) : Prop := match x with
  | some (.ptr cells) => sz ≤ cells.length ∧ K (partAV agg sz cells 0)
  | some (.optr tag b off) => withObj st tag b fun cells => off + sz ≤ cells.length ∧ K (partAV agg sz cells off)
  | _ => False
noncomputable def storeVC (sz : Nat) (x : Option AV) (y : Option AV) (st : St) (K : St → Prop) : Prop := match x with
  | some (.optr tag b off) => withAV y fun v => withObj st tag b fun cells => (off + sz ≤ cells.length ∧ v.fits = true ∧ v.cells.length = sz) ∧ K (setObj tag (cells.take off ++ v.cells ++ cells.drop (off + sz)) st)
  | _ => False
def idxAVC (sz : Nat) (x : Option AV) (i : Int) (K : AV → Prop) : Prop := match x with
  | some (.sl _ sz' els) => (0 ≤ i ∧ i < els.length ∧ sz' = sz) ∧ K (.ptr (els.getD i.toNat []))
  | some (.osl tag b off len) => (0 ≤ i ∧ i < len) ∧ K (.optr tag b (off + i.toNat * sz))
  | _ => False
def idxPVC (n sz : Nat) (x : Option AV) (i : Int) (K : AV → Prop) : Prop := match x with
  | some (.ptr cells) => (0 ≤ i ∧ i < n) ∧ K (.ptr (cells.drop (i.toNat * sz)))
  | some (.optr tag b off) => (0 ≤ i ∧ i < n) ∧ K (.optr tag b (off + i.toNat * sz))
  | _ => False
def fldAVC (off : Nat) (x : Option AV) (K : AV → Prop) : Prop := match x with
  | some (.ptr cells) => K (.ptr (cells.drop off))
  | some (.optr tag b o) => K (.optr tag b (o + off))
  | _ => False
def nckVC (x : Option AV) (K : AV → Prop) : Prop := match x with
  | some (.ptr cells) => K (.ptr cells)
  | some (.optr tag b o) => K (.optr tag b o)
  | _ => False
def App.cut (app : App) (open_ : Bool) : App := match app with
  | .nil => .nil
  | .full => if open_ then .full else .no
  | _ => .no
def App.cut3 : App → App
  | .nil => .nil
  | _ => .full
def bnd (fr : Fr) (x : Option Y) (d : Int) (F : Int → Prop) : Prop := match x with
  | none => F d
  | some y => withInt (fr.at y) fun _ n => F n
def sliceVC (sz : Nat) (x : Option AV) (fr : Fr) (lo hi mx : Option Y) (K : AV → Prop) : Prop := match x with
  | some (.sl app sz' els) => match mx with
    | none => bnd fr lo 0 fun l => bnd fr hi els.length fun h => (0 ≤ l ∧ l ≤ h ∧ h ≤ els.length ∧ sz' = sz) ∧
        K (.sl (app.cut hi.isNone) sz ((els.drop l.toNat).take (h.toNat - l.toNat)))
    | some m => bnd fr lo 0 fun l => bnd fr hi els.length fun h => withInt (fr.at m) fun _ m => (0 ≤ l ∧ l ≤ h ∧ h ≤ els.length ∧ m = h ∧ sz' = sz) ∧
        K (.sl app.cut3 sz ((els.drop l.toNat).take (h.toNat - l.toNat)))
  | some (.osl tag b off len) => match mx with
    | none => bnd fr lo 0 fun l => bnd fr hi len fun h => (0 ≤ l ∧ l ≤ h ∧ h ≤ len ∧ (l = 0 ∨ l < len)) ∧ K (.osl tag b (off + l.toNat * sz) (h.toNat - l.toNat))
    | some _ => False
  | _ => False
def slicePVC (n sz : Nat) (x : Option AV) (fr : Fr) (lo hi : Option Y) (K : AV → Prop) : Prop := match x with
  | some (.optr tag b off) => bnd fr lo 0 fun l => bnd fr hi n fun h => (0 ≤ l ∧ l ≤ h ∧ h ≤ n ∧ (l = 0 ∨ l < n)) ∧ K (.osl tag b (off + l.toNat * sz) (h.toNat - l.toNat))
  | _ => False
def evs (fr : Fr) : List Y → Option (List AV)
  | [] => some []
  | y :: r => match fr.at y, evs fr r with
    | some x, some xs => some (x :: xs)
    | _, _ => none
def withAVs (x : Option (List AV)) (F : List AV → Prop) : Prop := match x with
  | some v => F v
  | none => False
def withParts (fr : Fr) : List (Nat × Nat × Y) → (List (Nat × AV) → Prop) → Prop
  | [], F => F []
  | (off, sz, y) :: r, F => withAV (fr.at y) fun v => (v.fits = true ∧ v.cells.length = sz) ∧ withParts fr r fun ps => F ((off, v) :: ps)

/-- A function that a call enters. -/
def FnOk (P : Program) (f : FuncId) : Prop := ∃ fn, P.funcs[f]? = some fn ∧ (fn.name == "runtime.NumGoroutine") = false ∧ fn.body.isNone = false
/-- A call: named, so that reckoning stops here. -/
structure CallGoal (P : Program) (G : Nat → AV) (f : FuncId) (args : List AV) (st : St) (K : AV → St → Prop) : Prop where
  out : ∃ R st₁ st₂, st.Perm (st₁ ++ st₂) ∧ ACall P G f args R st₁ ∧ ∀ r st', R r st' → K r (st' ++ st₂)
def okSeg (F : List Nat) : Seg → Bool
  | .obj t _ _ => !F.contains t
  | .row _ _ _ => false
/-- A call that answers one thing and leaves all as it was: named. -/
structure PCallGoal (P : Program) (G : Nat → AV) (F : List Nat) (f : FuncId) (args : List AV) (st : St) (K : AV → St → Prop) : Prop where
  out : ∃ x st₁ st₂, st.Perm (st₁ ++ st₂) ∧ st₁.all (okSeg F) = true ∧ ACall P G f args (fun r st' => r = x ∧ st' = st₁) st₁ ∧ K x st
def offF (F : List Nat) : Option AV → Bool
  | some (.optr t _ _) => !F.contains t
  | _ => true
def onT (t : Nat) : Option AV → Bool
  | some (.optr t' _ _) => t' == t
  | _ => false
/-- An append: named. -/
structure AppGoal (sz bytes : Nat) (app : App) (els news : List (List AV)) (st : St) (K : AV → St → Prop) : Prop where
  out : ((els.length + news.length) * bytes ≤ 140737488355328 ∧ els.length + news.length ≤ 9223372036854775807) ∧ (news = [] → K (.sl app sz els) st) ∧
    ((app = .nil ∨ app = .full) ∧ (∀ b cap, K (.sl (.tok b cap) sz (els ++ news)) (.row (.tok b cap) (els.length + news.length) sz :: st)) ∨
      app ≠ .no ∧ ∃ l₁ l₂, st = l₁ ++ .row app els.length sz :: l₂ ∧ (∀ b cap, K (.sl (.tok b cap) sz (els ++ news)) (l₁ ++ .row (.tok b cap) (els.length + news.length) sz :: l₂)))

def chunk (sz : Nat) : Nat → List AV → List (List AV)
  | 0, _ => []
  | n + 1, l => l.take sz :: chunk sz n (l.drop sz)

def appVC (sz bytes : Nat) (x y : Option AV) (st : St) (K : AV → St → Prop) : Prop := match x with
  | some (.sl app sz' els) => sz' = sz ∧ match y with
    | some (.sl _ sz2 news) => sz2 = sz ∧ AppGoal sz bytes app els news st K
    | some (.str l) => sz = 1 ∧ AppGoal sz bytes app els (l.map b8) st K
    | some (.osl tag b off len) => withObj st tag b fun cells => (off + len * sz ≤ cells.length ∧ 0 < sz) ∧ AppGoal sz bytes app els (chunk sz len ((cells.drop off).take (len * sz))) st K
    | _ => False
  | _ => False
noncomputable def copyVC (sz : Nat) (x y : Option AV) (st : St) (K : AV → St → Prop) : Prop := match x with
  | some (.osl tag b off len) => withObj st tag b fun cells => off + len * sz ≤ cells.length ∧ (match y with
    | some (.sl _ sz' news) => sz' = sz ∧ K (.int .i64 (min news.length len : Nat)) (setObj tag (cells.take off ++ (news.take len).flatten ++ cells.drop (off + (min news.length len) * sz)) st)
    | some (.osl tag' b' off' len') => withObj st tag' b' fun cells' => off' + len' * sz ≤ cells'.length ∧
        K (.int .i64 (min len' len : Nat)) (setObj tag (cells.take off ++ (cells'.drop off').take ((min len' len) * sz) ++ cells.drop (off + (min len' len) * sz)) st)
    | _ => False)
  | _ => False

noncomputable def vcK (P : Program) (G : Nat → AV) (k : AK) (fr : Fr) (st : St) (K : AV → St → Prop) : Prop := match k with
  | .mv x => withAV (fr.at x) fun v => K v st
  | .pick c a b => withBool (fr.at c) fun t => (t = true → withAV (fr.at a) fun v => K v st) ∧ (t = false → withAV (fr.at b) fun v => K v st)
  | .bin op x y => withInt (fr.at x) fun k a => withInt (fr.at y) fun k' b => k = k' ∧ binVC op k a b fun v => K v st
  | .shf op x y => withInt (fr.at x) fun k a => withInt (fr.at y) fun _ b => shfVC op k a b fun v => K v st
  | .sbin op x y => withStr (fr.at x) fun a => withStr (fr.at y) fun b => sbinVC op a b fun v => K v st
  | .isnil neg sl x => isnilVC sl (fr.at x) fun b => K (.bool (if neg then !b else b)) st
  | .eqc neg n ls x y => withAgg (fr.at x) fun a => withAgg (fr.at y) fun b => (n ≤ a.length ∧ n ≤ b.length ∧ flatAt a b ls = true) ∧ K (.bool (if neg then !(eqAt a b ls) else eqAt a b ls)) st
  | .eqb neg x y => withBool (fr.at x) fun a => withBool (fr.at y) fun b => K (.bool (if neg then !(a == b) else (a == b))) st
  | .un op x => match op with
    | .not => withBool (fr.at x) fun b => K (.bool !b) st
    | .neg => withInt (fr.at x) fun k a => K (.int k (k.wrap (0 - a))) st
    | .xor => withInt (fr.at x) fun k a => K (.int k (inot k a)) st
    | _ => False
  | .cvt k x => withInt (fr.at x) fun _ n => K (.int k (k.wrap n)) st
  | .s2b im x => withStr (fr.at x) fun l => if im then K (.sl .no 1 (l.map b8)) st else ∀ b cap, K (.sl (.tok b cap) 1 (l.map b8)) (.row (.tok b cap) l.length 1 :: st)
  | .b2s x => withSl (fr.at x) fun _ sz els => (sz = 1 ∧ els.all isByte = true) ∧ K (.str (els.map toByte)) st
  | .len x => match fr.at x with
    | some (.sl _ _ els) => K (.int .i64 els.length) st
    | some (.osl _ _ _ n) => K (.int .i64 n) st
    | _ => False
  | .slen x => withStr (fr.at x) fun l => K (.int .i64 l.length) st
  | .lenc n => K (.int .i64 n) st
  | .mm mx x y => withInt (fr.at x) fun k a => withInt (fr.at y) fun k' b => k = k' ∧ K (.int k (if mx then max a b else min a b)) st
  | .idxA sz x i => withInt (fr.at i) fun _ i => idxAVC sz (fr.at x) i fun v => K v st
  | .idxP n sz x i => withInt (fr.at i) fun _ i => idxPVC n sz (fr.at x) i fun v => K v st
  | .idxG n sz agg x i => withAgg (fr.at x) fun l => withInt (fr.at i) fun _ i => (0 ≤ i ∧ i < n ∧ i.toNat * sz + sz ≤ l.length) ∧ K (partAV agg sz l (i.toNat * sz)) st
  | .idxS x i => withStr (fr.at x) fun l => withInt (fr.at i) fun _ i => (0 ≤ i ∧ i < l.length) ∧ K (.int .u8 (l.getD i.toNat 0).toNat) st
  | .fldA off x => fldAVC off (fr.at x) fun v => K v st
  | .fld off sz agg x => withAgg (fr.at x) fun l => off + sz ≤ l.length ∧ K (partAV agg sz l off) st
  | .load sz agg x => loadVC sz agg (fr.at x) st fun v => K v st
  | .store sz x y => storeVC sz (fr.at x) (fr.at y) st fun st' => K .any st'
  | .nck x => nckVC (fr.at x) fun v => K v st
  | .slice sz x lo hi mx => sliceVC sz (fr.at x) fr lo hi mx fun v => K v st
  | .sslice x lo hi => withStr (fr.at x) fun s => bnd fr lo 0 fun l => bnd fr hi s.length fun h => (0 ≤ l ∧ l ≤ h ∧ h ≤ s.length) ∧ K (.str ((s.drop l.toNat).take (h.toNat - l.toNat))) st
  | .sliceP n sz x lo hi => slicePVC n sz (fr.at x) fr lo hi fun v => K v st
  | .ext x i => match fr.at x with
    | some (.tup vs) => withAV (vs[i]?) fun v => K v st
    | _ => False
  | .call f xs => withAVs (evs fr xs) fun vs => CallGoal P G f vs st K
  | .pcall F f xs => withAVs (evs fr xs) fun vs => PCallGoal P G F f vs st K
  | .loadX F sz agg x => offF F (fr.at x) = true ∧ loadVC sz agg (fr.at x) st fun v => K v st
  | .storeX t sz x y => onT t (fr.at x) = true ∧ storeVC sz (fr.at x) (fr.at y) st fun st' => K .any st'
  | .bad => False
  | .callv f xs => match fr.at f with
    | some (.fn f caps) => FnOk P f ∧ withAVs (evs fr xs) fun vs => CallGoal P G f (vs ++ caps) st K
    | _ => False
  | .carry sub x y c => withInt (fr.at x) fun k a => withInt (fr.at y) fun k' b => withInt (fr.at c) fun k'' c => (k = .u64 ∧ k' = .u64 ∧ k'' = .u64 ∧ 0 ≤ a ∧ 0 ≤ b ∧ 0 ≤ c ∧ c ≤ 1 ∧ a < 18446744073709551616 ∧ b < 18446744073709551616) ∧
      K (if sub then .tup [.int .u64 ((a - b - c) % 18446744073709551616), .int .u64 (if a < b + c then 1 else 0)]
         else .tup [.int .u64 ((a + b + c) % 18446744073709551616), .int .u64 ((a + b + c) / 18446744073709551616)]) st
  | .app sz bytes x y => appVC sz bytes (fr.at x) (fr.at y) st K
  | .copy sz x y => copyVC sz (fr.at x) (fr.at y) st K
  | .alloc tag z => ∀ b, K (.optr tag b 0) (insObj tag b z st)
  | .box im tag sz x => withAV (fr.at x) fun v => (v.fits = true) ∧ (if im then K (.ptr v.cells) st else ∀ b, K (.optr tag b 0) (.obj tag b v.cells :: st))
  | .build z parts => withParts fr parts fun ps => K (.agg (fillAV z ps)) st
  | .bsl im tag len sz z parts => withParts fr parts fun ps =>
      if im then K (.sl .full sz (chunk sz len (fillAV (List.replicate len z).flatten ps))) st else ∀ b, K (.osl tag b 0 len) (.obj tag b (fillAV (List.replicate len z).flatten ps) :: st)
  | .mks im tag sz bytes z l c => withInt (fr.at l) fun _ l => withInt (fr.at c) fun _ c => (0 ≤ l ∧ l = c ∧ l * bytes ≤ 140737488355328 ∧ l ≤ 9223372036854775807) ∧
      (if im then K (.sl .full sz (List.replicate l.toNat z)) st else ∀ b, K (.osl tag b 0 l.toNat) (.obj tag b (List.replicate l.toNat z).flatten :: st))
  | .mkfn f caps => withAVs (evs fr caps) fun vs => K (.fn f vs) st

/-- What stands in a slot whose operation was passed over. -/
@[reducible] def AV.und : AV := .v (.tuple #[])
def vcG (g : Option (Nat × Bool)) (fr : Fr) (yes no : Prop) : Prop := match g with
  | none => yes
  | some (j, want) => match fr.get j with
    | some (.v (.bool b)) => (b = want → yes) ∧ (b = !want → no)
    | some (.v (.tuple _)) => no
    | _ => False
def putFr (d : Option Nat) (x : AV) (fr : Fr) : Fr := match d with
  | some d => (d, x) :: fr
  | none => fr
noncomputable def vcO (P : Program) (G : Nat → AV) : List AO → Fr → St → (Fr → St → Prop) → Prop
  | [], fr, st, K => K fr st
  | o :: os, fr, st, K => vcG o.g fr (vcK P G o.k fr st fun x st' => vcO P G os (putFr o.dst x fr) st' K) (vcO P G os (putFr o.dst .und fr) st K)

/-- Two ways on; where the answer is known, one. -/
def bcase (b : Bool) (y n : Prop) : Prop := match b with
  | true => y
  | false => n
noncomputable def setFr (j : Nat) (v : AV) (fr : Fr) : Fr := List.rec (motive := fun _ => Fr) [] (fun p r ih => match Nat.beq p.1 j with
  | true => (j, v) :: r
  | false => p :: ih) fr
theorem setFr_nil (j : Nat) (v : AV) : setFr j v [] = [] := rfl
theorem setFr_cons (j : Nat) (v : AV) (p : Nat × AV) (r : Fr) : setFr j v (p :: r) = if p.1 = j then (j, v) :: r else p :: setFr j v r := by
  show (match Nat.beq p.1 j with | true => _ | false => _ : Fr) = _
  by_cases h : p.1 = j
  · rw [if_pos h, natBeq_same h]
  · rw [if_neg h, natBeq_other h]; rfl
def ifB (b : Bool) (X : Prop) : Prop := match b with
  | true => X
  | false => False
def kindB : IntKind → Nat
  | .i8 => 0 | .i16 => 1 | .i32 => 2 | .i64 => 3 | .u8 => 4 | .u16 => 5 | .u32 => 6 | .u64 => 7
def inB (i : Int) (n : Nat) : Bool := match i with
  | .ofNat k => Nat.ble (k + 1) n
  | .negSucc _ => false
/-- Less: so that reckoning stops at once where a number is not known. -/
def lssB : Int → Int → Bool
  | .ofNat m, .ofNat n => Nat.ble (m + 1) n
  | .ofNat _, .negSucc _ => false
  | .negSucc _, .ofNat _ => true
  | .negSucc m, .negSucc n => Nat.ble (n + 1) m
theorem lssB_eq (a b : Int) : lssB a b = decide (a < b) := by
  have h : ∀ {m n : Nat}, Nat.ble (m + 1) n = decide (m < n) := by
    intro m n
    by_cases q : m < n
    · rw [decide_eq_true q]; exact Nat.ble_eq_true_of_le q
    · rw [decide_eq_false q]
      cases e : Nat.ble (m + 1) n with
      | false => rfl
      | true => exact absurd (Nat.le_of_ble_eq_true e) q
  cases a <;> cases b <;> simp only [lssB, h] <;> simp <;> omega
def nzB : Int → Bool
  | .ofNat n => !(Nat.beq n 0)
  | .negSucc _ => true
theorem nzB_ne {b : Int} (h : nzB b = true) : b ≠ 0 := by
  rintro rfl
  exact absurd h (by decide)
def binVP (op : BinOp) (k : IntKind) (a b : Int) (K : AV → Prop) : Prop := match op with
  | .lss => K (.bool (lssB a b))
  | .leq => K (.bool (!lssB b a))
  | .gtr => K (.bool (lssB b a))
  | .geq => K (.bool (!lssB a b))
  | .quo => match nzB b with
    | true => K (.int k (k.wrap (a.tdiv b)))
    | false => False
  | .rem => match nzB b with
    | true => K (.int k (a.tmod b))
    | false => False
  | op => binVC op k a b K
def nonnegB : Int → Bool
  | .ofNat _ => true
  | .negSucc _ => false
def shfVP (op : BinOp) (k : IntKind) (a b : Int) (K : AV → Prop) : Prop := match op with
  | .shl => ifB (nonnegB b) (K (.int k (shl k a b)))
  | .shr => ifB (nonnegB b) (K (.int k (shr k a b)))
  | _ => False
theorem binVP_binVC {op : BinOp} {k : IntKind} {a b : Int} {K : AV → Prop} (h : binVP op k a b K) : binVC op k a b K := by
  have e : ∀ a b : Int, (!lssB b a) = decide (a ≤ b) := fun a b => by rw [lssB_eq]; by_cases h : a ≤ b <;> simp [h] <;> omega
  unfold binVP at h
  split at h
  · rw [lssB_eq] at h; exact h
  · rw [e] at h; exact h
  · rw [lssB_eq] at h; exact h
  · rw [e] at h; exact h
  · cases q : nzB b with
    | true => rw [q] at h; exact ⟨nzB_ne q, h⟩
    | false => rw [q] at h; exact h.elim
  · cases q : nzB b with
    | true => rw [q] at h; exact ⟨nzB_ne q, h⟩
    | false => rw [q] at h; exact h.elim
  · exact h
/-- An element of a slice: named. -/
structure IdxGoal (els : List (List AV)) (i : Int) (K : List AV → Prop) : Prop where
  out : 0 ≤ i ∧ ∃ c, els[i.toNat]? = some c ∧ K c
/-- A part of a slice: named. -/
structure SliceGoal (els : List (List AV)) (l h : Int) (K : List (List AV) → Prop) : Prop where
  out : ∃ n m els', l = (n : Nat) ∧ h = (m : Nat) ∧ n ≤ m ∧ m ≤ els.length ∧ els' = (els.drop n).take (m - n) ∧ K els'
/-- A string of bytes: named. -/
structure StrGoal (els : List (List AV)) (K : List UInt8 → Prop) : Prop where
  out : ∃ l : List UInt8, els = l.map b8 ∧ K l
/-- A sum or difference of words with its carry: named. -/
structure CarryGoal (sub : Bool) (a b c : Int) (K : AV → Prop) : Prop where
  out : (0 ≤ a ∧ 0 ≤ b ∧ 0 ≤ c ∧ c ≤ 1 ∧ a < 18446744073709551616 ∧ b < 18446744073709551616) ∧
      K (if sub then .tup [.int .u64 ((a - b - c) % 18446744073709551616), .int .u64 (if a < b + c then 1 else 0)]
         else .tup [.int .u64 ((a + b + c) % 18446744073709551616), .int .u64 ((a + b + c) / 18446744073709551616)])
/-- Are two aggregates alike?: named. -/
structure EqGoal (neg : Bool) (n : Nat) (a b : List AV) (ls : List (Nat × Leaf)) (K : Bool → Prop) : Prop where
  out : ∃ t, (n ≤ a.length ∧ n ≤ b.length ∧ flatAt a b ls = true) ∧ eqAt a b ls = t ∧ K (if neg then !t else t)
def wParts (fr : Fr) : List (Nat × Nat × Y) → (List (Nat × AV) → Prop) → Prop
  | [], F => F []
  | (off, sz, y) :: r, F => withAV (fr.at y) fun v => ifB (v.fits && Nat.beq v.cells.length sz) (wParts fr r fun ps => F ((off, v) :: ps))
noncomputable def vcP (P : Program) (G : Nat → AV) (k : AK) (fr : Fr) (st : St) (K : AV → St → Prop) : Prop := match k with
  | .pick c a b => withBool (fr.at c) fun t => bcase t (withAV (fr.at a) fun v => K v st) (withAV (fr.at b) fun v => K v st)
  | .bin op x y => withInt (fr.at x) fun k a => withInt (fr.at y) fun k' b => ifB (Nat.beq (kindB k) (kindB k')) (binVP op k a b fun v => K v st)
  | .shf op x y => withInt (fr.at x) fun k a => withInt (fr.at y) fun _ b => shfVP op k a b fun v => K v st
  | .mm mx x y => withInt (fr.at x) fun k a => withInt (fr.at y) fun k' b => ifB (Nat.beq (kindB k) (kindB k')) (K (.int k (if mx then max a b else min a b)) st)
  | .b2s x => withSl (fr.at x) fun _ sz els => ifB (Nat.beq sz 1) (StrGoal els fun l => K (.str l) st)
  | .idxA sz x i => withInt (fr.at i) fun _ i => match fr.at x with
    | some (.sl _ sz' els) => ifB (Nat.beq sz' sz) (IdxGoal els i fun c => K (.ptr c) st)
    | some (.osl tag b off len) => ifB (inB i len) (K (.optr tag b (off + i.toNat * sz)) st)
    | _ => False
  | .idxP n sz x i => withInt (fr.at i) fun _ i => match fr.at x with
    | some (.ptr cells) => ifB (inB i n) (K (.ptr (cells.drop (i.toNat * sz))) st)
    | some (.optr tag b off) => ifB (inB i n) (K (.optr tag b (off + i.toNat * sz)) st)
    | _ => False
  | .idxG n sz agg x i => withAgg (fr.at x) fun l => withInt (fr.at i) fun _ i => ifB (inB i n && Nat.ble (i.toNat * sz + sz) l.length) (K (partAV agg sz l (i.toNat * sz)) st)
  | .load sz agg x => match fr.at x with
    | some (.ptr cells) => ifB (Nat.ble sz cells.length) (K (partAV agg sz cells 0) st)
    | some (.optr tag b off) => withObj st tag b fun cells => ifB (Nat.ble (off + sz) cells.length) (K (partAV agg sz cells off) st)
    | _ => False
  | .store sz x y => match fr.at x with
    | some (.optr tag b off) => withAV (fr.at y) fun v => withObj st tag b fun cells => ifB (Nat.ble (off + sz) cells.length && v.fits && Nat.beq v.cells.length sz) (K .any (setObj tag (cells.take off ++ v.cells ++ cells.drop (off + sz)) st))
    | _ => False
  | .slice sz x lo hi none => match fr.at x with
    | some (.sl app sz' els) => bnd fr lo 0 fun l => bnd fr hi els.length fun h => ifB (Nat.beq sz' sz) (SliceGoal els l h fun els' => K (.sl (app.cut hi.isNone) sz els') st)
    | some (.osl tag b off len) => bnd fr lo 0 fun l => bnd fr hi len fun h => (0 ≤ l ∧ l ≤ h ∧ h ≤ len ∧ (l = 0 ∨ l < len)) ∧ K (.osl tag b (off + l.toNat * sz) (h.toNat - l.toNat)) st
    | _ => False
  | .app sz bytes x y => match fr.at x with
    | some (.sl app sz' els) => ifB (Nat.beq sz' sz) (match fr.at y with
      | some (.sl _ sz2 news) => ifB (Nat.beq sz2 sz) (AppGoal sz bytes app els news st K)
      | some (.str l) => ifB (Nat.beq sz 1) (AppGoal sz bytes app els (l.map b8) st K)
      | some (.osl tag b off len) => withObj st tag b fun cells => ifB (Nat.ble (off + len * sz) cells.length && Nat.ble 1 sz) (AppGoal sz bytes app els (chunk sz len ((cells.drop off).take (len * sz))) st K)
      | _ => False)
    | _ => False
  | .box true tag sz x => withAV (fr.at x) fun v => ifB v.fits (K (.ptr v.cells) st)
  | .box false tag sz x => withAV (fr.at x) fun v => ifB v.fits (∀ b, K (.optr tag b 0) (.obj tag b v.cells :: st))
  | .build z parts => wParts fr parts fun ps => K (.agg (fillAV z ps)) st
  | .bsl true tag len sz z parts => wParts fr parts fun ps => K (.sl .full sz (chunk sz len (fillAV (List.replicate len z).flatten ps))) st
  | .bsl false tag len sz z parts => wParts fr parts fun ps => ∀ b, K (.osl tag b 0 len) (.obj tag b (fillAV (List.replicate len z).flatten ps) :: st)
  | .carry sub x y c => withInt (fr.at x) fun k a => withInt (fr.at y) fun k' b => withInt (fr.at c) fun k'' c => ifB (Nat.beq (kindB k) (kindB .u64) && Nat.beq (kindB k') (kindB .u64) && Nat.beq (kindB k'') (kindB .u64)) (CarryGoal sub a b c fun v => K v st)
  | .eqc neg n ls x y => withAgg (fr.at x) fun a => withAgg (fr.at y) fun b => EqGoal neg n a b ls fun t => K (.bool t) st
  | k => vcK P G k fr st K
noncomputable def vcH (g : Option (Nat × Bool)) (fr : Fr) (yes no : Fr → Prop) : Prop := match g with
  | none => yes fr
  | some (j, true) => match fr.get j with
    | some (.v (.bool b)) => bcase b (yes (setFr j (.bool true) fr)) (no (setFr j (.bool false) fr))
    | some (.v (.tuple _)) => no fr
    | _ => False
  | some (j, false) => match fr.get j with
    | some (.v (.bool b)) => bcase b (no (setFr j (.bool true) fr)) (yes (setFr j (.bool false) fr))
    | some (.v (.tuple _)) => no fr
    | _ => False
/-- The same as a prover sees it: what a test has answered is written into the frame. -/
noncomputable def ucO (P : Program) (G : Nat → AV) (os : List AO) : Fr → St → (Fr → St → Prop) → Prop := List.rec (motive := fun _ => Fr → St → (Fr → St → Prop) → Prop) (fun fr st K => K fr st)
  (fun o _ ih fr st K => vcH o.g fr (fun fr => vcP P G o.k fr st fun x st' => ih (putFr o.dst x fr) st' K) (fun fr => ih (putFr o.dst .und fr) st K)) os
theorem ucO_cons (P : Program) (G : Nat → AV) (o : AO) (os : List AO) (fr : Fr) (st : St) (K : Fr → St → Prop) : ucO P G (o :: os) fr st K = vcH o.g fr (fun fr => vcP P G o.k fr st fun x st' => ucO P G os (putFr o.dst x fr) st' K) (fun fr => ucO P G os (putFr o.dst .und fr) st K) := rfl
noncomputable def setY (c : Y) (v : AV) (fr : Fr) : Fr := match c with
  | .t n => setFr n v fr
  | .c _ => fr
/-- A value once the block is declared finished. -/
inductive Fz (tag b sz : Nat) (cells : List AV) : AV → AV → Prop
  | refl (x) : Fz tag b sz cells x x
  | optr (off) : Fz tag b sz cells (.optr tag b off) (.ptr (cells.drop off))
  | osl (off len) (h : off + len * sz ≤ cells.length) (h0 : 0 < sz) : Fz tag b sz cells (.osl tag b off len) (.sl .no sz (chunk sz len (cells.drop off)))
  | agg (l l' : List AV) (hl : l.length = l'.length) (h : ∀ (j : Nat) x x', l[j]? = some x → l'[j]? = some x' → Fz tag b sz cells x x') : Fz tag b sz cells (.agg l) (.agg l')
  | tup (l l' : List AV) (hl : l.length = l'.length) (h : ∀ (j : Nat) x x', l[j]? = some x → l'[j]? = some x' → Fz tag b sz cells x x') : Fz tag b sz cells (.tup l) (.tup l')
/-- A state that says less. -/
def St.le (st' st : St) : Prop := ∃ p : St, p.Perm st ∧ st'.Sublist p
/-- A value of which less is said. -/
inductive Wk : AV → AV → Prop
  | refl (x) : Wk x x
  | any (x) : Wk x .any
  | slno (app sz els) (h : app ≠ .nil) : Wk (.sl app sz els) (.sl .no sz els)
  | retag (t t' b off) : Wk (.optr t b off) (.optr t' b off)
  | retagS (t t' b off len) : Wk (.osl t b off len) (.osl t' b off len)
  | agg (l l' : List AV) (hl : l.length = l'.length) (h : ∀ (j : Nat) x x', l[j]? = some x → l'[j]? = some x' → Wk x x') : Wk (.agg l) (.agg l')
  | tup (l l' : List AV) (hl : l.length = l'.length) (h : ∀ (j : Nat) x x', l[j]? = some x → l'[j]? = some x' → Wk x x') : Wk (.tup l) (.tup l')
def App.lone : App → Bool
  | .tok _ _ => false
  | _ => true
/-- Forgetting, and declaring blocks finished. -/
inductive Frz : Fr → St → Fr → St → Prop
  | weak {fr fr1 fr' : Fr} {st st' : St} (h : ∀ i x', fr1.get i = some x' → ∃ x, fr.get i = some x ∧ Wk x x') (h2 : Frz fr1 st fr' st') : Frz fr st fr' st'
  | row {fr fr' : Fr} {st st' : St} (app : App) (n sz : Nat) (h : app.lone = true) (h2 : Frz fr (.row app n sz :: st) fr' st') : Frz fr st fr' st'
  | done {fr fr' : Fr} {st st' : St} (h : ∀ i x, fr'.get i = some x → fr.get i = some x) (h2 : St.le st' st) : Frz fr st fr' st'
  | retag {fr fr' : Fr} {l₁ l₂ st' : St} (t t' b : Nat) (cells : List AV) (h2 : Frz fr (l₁ ++ .obj t' b cells :: l₂) fr' st') : Frz fr (l₁ ++ .obj t b cells :: l₂) fr' st'
  | step {fr fr1 fr' : Fr} {l₁ l₂ st' : St} (tag b sz : Nat) (cells : List AV) (h : ∀ i x', fr1.get i = some x' → ∃ x, fr.get i = some x ∧ Fz tag b sz cells x x') (h2 : Frz fr1 (l₁ ++ l₂) fr' st') : Frz fr (l₁ ++ .obj tag b cells :: l₂) fr' st'
theorem Frz.refl (fr : Fr) (st : St) : Frz fr st fr st := .done (fun _ _ h => h) ⟨st, .refl _, .refl _⟩
/-- A loop: named. -/
structure LoopGoal (b : C) (body : (AQ) → Fr → St → Prop) (Q : AQ) (fr : Fr) (st : St) : Prop where
  out : ∃ (I : Nat → Fr → St → Prop) (n : Nat), (∃ fr' st', Frz fr st fr' st' ∧ I n fr' st') ∧ ∀ n fr st, I n fr st → body (AQ.then (fun fr' st' => ∃ m, m < n ∧ ∃ fr'' st'', Frz fr' st' fr'' st'' ∧ I m fr'' st'') Q) fr st
/-- A place where what is owned may be declared finished: named. -/
structure FrzGoal (K : Fr → St → Prop) (fr : Fr) (st : St) : Prop where
  out : ∃ fr' st', Frz fr st fr' st' ∧ K fr' st'

noncomputable def vc (P : Program) (G : Nat → AV) (c : C) : AQ → Fr → St → Prop := C.rec (motive := fun _ => AQ → Fr → St → Prop)
  (fun Q fr st => Q .normal fr st)
  (fun ops Q fr st => ucO P G ops fr st (Q .normal))
  (fun _ _ iha ihb Q fr st => iha (AQ.then (ihb Q) Q) fr st)
  (fun c _ _ iha ihb Q fr st => withBool (fr.at c) fun t => bcase t (iha Q (setY c (.bool true) fr) st) (ihb Q (setY c (.bool false) fr) st))
  (fun id _ ih Q fr st => ih (AQ.inBlock id Q) fr st)
  (fun b ih Q fr st => LoopGoal b ih Q fr st)
  (fun Q fr st => FrzGoal (Q .normal) fr st)
  (fun id Q fr st => Q (.exit id) fr st)
  (fun Q fr st => Q .ret fr st) c

/-! ### Reading a program's own operations -/
def aggT (P : Program) (t : TypeId) : Bool := match P.underlying t with
  | some (.struct _) | some (.array _ _) => true
  | _ => false
/-- For each cell of a type: how many cells an element has, where it is a slice; else 0. -/
def szs (P : Program) : Nat → TypeId → List Nat
  | 0, _ => []
  | d + 1, t => match P.underlying t with
    | some (.slice e) => [P.cellsOf e]
    | some (.array n e) => (List.replicate n (szs P d e)).flatten
    | some (.struct fs) => (fs.toList.map fun f => szs P d f.type).flatten
    | _ => [0]
def szT (P : Program) (t : TypeId) : List Nat := szs P 12 t
/-- A type's size is known, and a value that is no aggregate takes one cell. -/
def okT (P : Program) (t : TypeId) : Bool := (P.info? t).isSome && (P.underlying t).isSome && (aggT P t || P.cellsOf t == 1)
def zeroT (P : Program) (t : TypeId) : Option (List AV) := match (P.info? t).bind (·.zero) with
  | some v => if (AV.ofConst (szT P t) v).fits then some (AV.ofConst (szT P t) v).cells else none
  | none => none
def Y.ofT (P : Program) (G : Nat → AV) (t : TypeId) (x : Operand) : Y := match x with
  | .const v => .of G (szT P t) (.const v)
  | x => .of G [] x
def Y.ofTs (P : Program) (G : Nat → AV) : List TypeId → List Operand → List Y
  | _, [] => []
  | [], x :: r => Y.of G [] x :: Y.ofTs P G [] r
  | u :: us, x :: r => Y.ofT P G u x :: Y.ofTs P G us r
/-- Where the numbers, bools and strings of a type lie, in the order in which they are compared. -/
def leaves (P : Program) : Nat → TypeId → Option (List (Nat × Leaf))
  | 0, _ => none
  | d + 1, t => match P.underlying t with
    | some .bool => some [(0, .bool)]
    | some (.int _) => some [(0, .int)]
    | some .string => some [(0, .str)]
    | some (.array n e) => match leaves P d e with
      | some ls => if okT P e && ls.all (fun p => decide (p.1 < P.cellsOf e)) then if n * P.cellsOf e ≤ P.cellsOf t then some ((List.range n).flatMap fun i => shiftL (i * P.cellsOf e) ls) else none else none
      | none => none
    | some (.struct fs) => if P.stoodInHeld t then none else
      fs.toList.foldr (fun f r => match r, leaves P d f.type with
        | some r, some ls => if f.name != "_" && okT P f.type && ls.all (fun p => decide (p.1 < P.cellsOf f.type)) && decide (f.offset + P.cellsOf f.type ≤ P.cellsOf t) then some (shiftL f.offset ls ++ r) else none
        | _, _ => none) (some [])
    | _ => none

/-- The parts of a literal: where each lies, how many cells it has. -/
def partsOf (n : Nat) (place : Nat → Option (Nat × Nat × TypeId)) (y : TypeId → Operand → Y) : List (Nat × Operand) → Option (List (Nat × Nat × Y))
  | [] => some []
  | (i, x) :: r => match place i, partsOf n place y r with
    | some (off, sz, t), some l => if off + sz ≤ n then some ((off, sz, y t x) :: l) else none
    | _, _ => none
def absParts (n : Nat) (place : Nat → Option (Nat × Nat × TypeId)) (y : TypeId → Operand → Y) (l : List (Nat × Operand)) (F : List (Nat × Nat × Y) → AK) : Option AK := (partsOf n place y l).map F

def absCall (P : Program) (G : Nat → AV) (hs : List Nat) (dst : Option Nat) (c : Call) : Option AK :=
  let xs := Y.ofTs P G c.argTypes.toList c.args.toList
  match c.callee with
  | .value (.func f) => match P.funcs[f]? with
    | none => none
    | some fn =>
      if fn.name == "runtime.NumGoroutine" then none
      else if fn.body.isNone then
        (if fn.origin != "" then none
         else if fn.name == "math/bits.Add64" then match xs with | [x, y, c] => some (.carry false x y c) | _ => none
         else if fn.name == "math/bits.Sub64" then match xs with | [x, y, c] => some (.carry true x y c) | _ => none
         else none)
      else some (.call f xs)
  | .value (.tmp t) => some (.callv (.t t) xs)
  | .builtin .len => match xs, c.argTypes.toList with
    | [x], [t] => match P.underlying t with
      | some (.slice _) => some (.len x)
      | some .string => some (.slen x)
      | some (.array n _) => some (.lenc n)
      | some (.pointer a) => match P.underlying a with
        | some (.array n _) => some (.lenc n)
        | _ => none
      | _ => none
    | _, _ => none
  | .builtin .min => match xs with
    | [x, y] => some (.mm false x y)
    | _ => none
  | .builtin .max => match xs with
    | [x, y] => some (.mm true x y)
    | _ => none
  | .builtin .append => match xs, c.argTypes.toList with
    | [x, y], [t, u] => match P.underlying t, P.underlying u with
      | some (.slice e), some (.slice _) => match P.info? e, zeroT P e with
        | some i, some z => if z.length = i.size then some (.app i.size i.bytes x y) else none
        | _, _ => none
      | some (.slice e), some .string => match P.info? e, zeroT P e with
        | some i, some z => if z.length = i.size ∧ i.size = 1 then some (.app i.size i.bytes x y) else none
        | _, _ => none
      | _, _ => none
    | _, _ => none
  | .builtin .copy => match xs, c.argTypes.toList with
    | [x, y], [t, _] => match P.underlying t with
      | some (.slice e) => if (P.info? e).isSome then some (.copy (P.cellsOf e) x y) else none
      | _ => none
    | _, _ => none
  | _ => none

def absEq (P : Program) (G : Nat → AV) (neg : Bool) (t : TypeId) (x y : Operand) : Option AK := match P.underlying t with
  | some (.slice _) => match y with
    | .const (.slice none _ _) => some (.isnil neg true (.of G [] x))
    | _ => none
  | some (.pointer _) => match y with
    | .const (.pointer none) => some (.isnil neg false (.of G [] x))
    | _ => none
  | some .bool => some (.eqb neg (.of G [] x) (.of G [] y))
  | _ => if aggT P t && okT P t && !P.eqGuardType P.depth t then (leaves P 5 t).map fun ls => .eqc neg (P.cellsOf t) ls (.of G [] x) (.of G [] y) else none
def absBin (P : Program) (G : Nat → AV) (op : BinOp) (t : TypeId) (x y : Operand) : Option AK := match P.underlying t with
  | some (.int _) => if op = .shl ∨ op = .shr then some (.shf op (.of G [] x) (.of G [] y)) else some (.bin op (.of G [] x) (.of G [] y))
  | some .string => if op = .shl ∨ op = .shr then none else some (.sbin op (.of G [] x) (.of G [] y))
  | _ => match op with
    | .eql => absEq P G false t x y
    | .neq => absEq P G true t x y
    | _ => none

def absK (P : Program) (G : Nat → AV) (hs : List Nat) (tag : Nat) (o : Oper) : Option AK :=
  let im := match o.dst with | some d => !hs.contains d | none => true
  let tag := match o.dst with | some d => tag + d | none => tag
  match o.op with
  | .move x | .assign x => some (.mv (.ofT P G o.type x))
  | .pick c a b => some (.pick (.of G [] c) (.ofT P G o.type a) (.ofT P G o.type b))
  | .alloc e => (zeroT P e).map (.alloc tag)
  | .box e x => some (.box im tag (P.cellsOf e) (.ofT P G e x))
  | .build t parts => match P.underlying t, zeroT P t with
    | some (.struct fs), some z => if fs.toList.all fun f => (P.info? f.type).isSome then absParts z.length (fun i => (fs[i]?).map fun f => (f.offset, P.cellsOf f.type, f.type)) (Y.ofT P G) parts.toList (.build z) else none
    | some (.array _ e), some z => if (P.info? e).isSome then absParts z.length (fun i => some (i * P.cellsOf e, P.cellsOf e, e)) (Y.ofT P G) parts.toList (.build z) else none
    | _, _ => none
  | .buildSlice t len parts => match P.underlying t with
    | some (.slice e) => match zeroT P e with
      | some z => if len * P.cellsOf e ≤ 100000 && z.length == P.cellsOf e && P.cellsOf e != 0 then absParts (len * P.cellsOf e) (fun i => some (i * P.cellsOf e, P.cellsOf e, e)) (Y.ofT P G) parts.toList (.bsl im tag len (P.cellsOf e) z) else none
      | none => none
    | _ => none
  | .load t a => if !okT P t then none else some (.load (P.cellsOf t) (aggT P t) (.of G [] a))
  | .store t a x => if !okT P t then none else some (.store (P.cellsOf t) (.of G [] a) (.ofT P G t x))
  | .nilCheck x => some (.nck (.of G [] x))
  | .binOp op t x y _ => absBin P G op t x y
  | .unOp op _ x => some (.un op (.of G [] x))
  | .convert src dst x => match P.underlying src, P.underlying dst with
    | some (.int _), some (.int k) => some (.cvt k (.of G [] x))
    | some .string, some (.slice e) => match P.underlying e with
      | some (.int .u8) => some (.s2b im (.of G [] x))
      | _ => none
    | some (.slice e), some .string => match P.underlying e with
      | some (.int .u8) => some (.b2s (.of G [] x))
      | _ => none
    | _, _ => none
  | .makeFunc (.func f) first caps => if first.isEmpty then some (.mkfn f (caps.toList.map (Y.of G []))) else none
  | .makeSlice t l c => match P.underlying t with
    | some (.slice e) => match P.info? e, zeroT P e with
      | some i, some z => if z.length == i.size then some (.mks im tag i.size i.bytes z (.of G [] l) (.of G [] c)) else none
      | _, _ => none
    | _ => none
  | .slice t x lo hi none => match P.underlying t with
    | some (.slice e) => if !okT P e then none else some (.slice (P.cellsOf e) (.of G [] x) (lo.map (Y.of G [])) (hi.map (Y.of G [])) none)
    | some .string => some (.sslice (.of G [] x) (lo.map (Y.of G [])) (hi.map (Y.of G [])))
    | some (.array n e) => if !okT P e then none else some (.sliceP n (P.cellsOf e) (.of G [] x) (lo.map (Y.of G [])) (hi.map (Y.of G [])))
    | _ => none
  | .slice t x lo hi (some m) => match P.underlying t with
    | some (.slice e) => if !(okT P e && hi.isSome) then none else some (.slice (P.cellsOf e) (.of G [] x) (lo.map (Y.of G [])) (hi.map (Y.of G [])) (some (.of G [] m)))
    | _ => none
  | .fieldAddr s x f => match P.underlying s with
    | some (.struct fs) => match fs[f]? with
      | some f => if P.cellsOf f.type = 0 then none else some (.fldA f.offset (.of G [] x))
      | none => none
    | _ => none
  | .field t x f => match P.underlying t with
    | some (.struct fs) => match fs[f]? with
      | some f => if !okT P f.type then none else some (.fld f.offset (P.cellsOf f.type) (aggT P f.type) (.of G [] x))
      | none => none
    | _ => none
  | .indexAddr t x i => match P.underlying t with
    | some (.slice e) => if !okT P e then none else some (.idxA (P.cellsOf e) (.of G [] x) (.of G [] i))
    | some (.array n e) => if !okT P e then none else some (.idxP n (P.cellsOf e) (.of G [] x) (.of G [] i))
    | _ => none
  | .index t x i => match P.underlying t with
    | some .string => some (.idxS (.of G [] x) (.of G [] i))
    | some (.array n e) => if !okT P e then none else some (.idxG n (P.cellsOf e) (aggT P e) (.of G [] x) (.of G [] i))
    | _ => none
  | .extract x i => some (.ext (.of G [] x) i)
  | .call c => absCall P G hs o.dst c
  | _ => none

def dstOk (d : Option Nat) (N : Nat) : Bool := match d with
  | some d => decide (d < N)
  | none => true
def absK' (P : Program) (G : Nat → AV) (hs : List Nat) (tag : Nat) (o : Oper) : AK := (absK P G hs tag o).getD .bad
def absO (P : Program) (G : Nat → AV) (N : Nat) (hs : List Nat) (tag : Nat) (ops : Array Oper) (o : Oper) : Option AO :=
  if dstOk o.dst N then
    match o.guard with
    | none => some ⟨o.dst, none, absK' P G hs tag o⟩
    | some (j, want) => match (ops[j]?).bind (·.dst) with
      | some g => some ⟨o.dst, some (g, want), absK' P G hs tag o⟩
      | none => none
  else none
def absOs (P : Program) (G : Nat → AV) (N : Nat) (hs : List Nat) (tag : Nat) (ops : Array Oper) : List Oper → Option (List AO)
  | [] => some []
  | o :: r => match absO P G N hs tag ops o, absOs P G N hs tag ops r with
    | some a, some b => some (a :: b)
    | _, _ => none

/-- Kinds that only look: in whatever order they are run they answer alike. -/
def AK.calm : AK → Bool
  | .call _ _ | .callv _ _ | .pcall _ _ _ | .app _ _ _ _ | .copy _ _ _ | .alloc _ _ | .box _ _ _ _ | .bsl _ _ _ _ _ _ | .mks _ _ _ _ _ _ _ | .store _ _ _ | .storeX _ _ _ _ | .s2b _ _ | .bad => false
  | _ => true
/-- Kinds that do not look at the state, and leave it as it was. -/
def AK.free : AK → Bool
  | .load _ _ _ | .loadX _ _ _ _ => false
  | .box im _ _ _ => im
  | .bsl im _ _ _ _ _ => im
  | .mks im _ _ _ _ _ _ => im
  | .s2b im _ => im
  | k => k.calm
/-- Kinds that leave the state as it was. -/
def AK.quiet : AK → Bool
  | .load _ _ _ | .loadX _ _ _ _ | .pcall _ _ _ => true
  | k => k.free
/-- Quiet kinds that surely do not look at what bears this tag. -/
def AK.avoid (t : Nat) : AK → Bool
  | .loadX F _ _ _ | .pcall F _ _ => F.contains t
  | k => k.free
def Y.looks : Y → List Nat
  | .t n => [n]
  | .c _ => []
def oLooks : Option Y → List Nat
  | some y => y.looks
  | none => []
def yLooks (l : List Y) : List Nat := l.flatMap Y.looks
def pLooks (l : List (Nat × Nat × Y)) : List Nat := l.flatMap fun p => p.2.2.looks
def AK.looks : AK → List Nat
  | .mv x | .un _ x | .cvt _ x | .s2b _ x | .b2s x | .len x | .slen x | .fldA _ x | .fld _ _ _ x | .load _ _ x | .nck x | .ext x _ | .box _ _ _ x | .isnil _ _ x | .loadX _ _ _ x => x.looks
  | .pick a b c | .carry _ a b c => a.looks ++ (b.looks ++ c.looks)
  | .bin _ x y | .shf _ x y | .sbin _ x y | .eqc _ _ _ x y | .eqb _ x y | .mm _ x y | .idxA _ x y | .idxP _ _ x y | .idxG _ _ _ x y | .idxS x y | .store _ x y | .storeX _ _ x y | .app _ _ x y | .copy _ x y | .mks _ _ _ _ _ x y => x.looks ++ y.looks
  | .lenc _ | .alloc _ _ | .bad => []
  | .slice _ x a b c => x.looks ++ (oLooks a ++ (oLooks b ++ oLooks c))
  | .sslice x a b | .sliceP _ _ x a b => x.looks ++ (oLooks a ++ oLooks b)
  | .call _ l | .pcall _ _ l | .mkfn _ l => yLooks l
  | .callv x l => x.looks ++ yLooks l
  | .build _ l | .bsl _ _ _ _ _ l => pLooks l
def AO.looks (o : AO) : List Nat := (match o.g with | some (g, _) => [g] | none => []) ++ o.k.looks
def AO.apart (x y : AO) : Bool :=
  (match x.dst with
   | some d => !y.looks.contains d && y.dst != some d
   | none => true) &&
  (match y.dst with
   | some d => !x.looks.contains d
   | none => true)
/-- May y come before x, though the text has it behind? -/
def AO.comm (x y : AO) : Bool := x.apart y && (x.k.free || (x.k.quiet && y.k.quiet) ||
  (match y.k with
   | .alloc t _ => y.g.isNone && (x.k.quiet || (x.g.isNone && match x.k with
     | .alloc t' _ => t != t'
     | .app _ _ _ _ => true
     | _ => false))
   | .app _ _ _ _ => y.g.isNone && x.k.quiet
   | .storeX t _ _ _ => y.g.isNone && x.k.avoid t
   | _ => false))
/-- A call that leaves all as it was. -/
def AO.pure (F : List Nat) (tag : Nat) (o : AO) : AO := match o.k with
  | .call f xs => { o with k := .pcall F f xs }
  | .load sz agg x => { o with k := .loadX F sz agg x }
  | .store sz (.t d) y => if F.contains (tag + d) then { o with k := .storeX (tag + d) sz (.t d) y } else o
  | _ => o
def AO.pcall (o : AO) : AO := match o.k with
  | .call f xs => { o with k := .pcall [] f xs }
  | _ => o
def binding (ops : Array Oper) : List (List Nat) := ops.toList.map fun o => (o.after.toList.filter (Region.binds .any)).map (·.on)
/-- Those that cannot come up before i has. -/
def held (deps : List (List Nat)) (i : Nat) (rest : List Nat) : List Nat := rest.foldl (fun B j => if (deps.getD j []).any (fun d => d == i || B.contains d) then j :: B else B) []
def orderOk (deps : List (List Nat)) (l : List AO) : List Nat → Bool
  | [] => true
  | i :: rest => (deps.getD i []).all (fun d => decide (d < l.length) && d != i && !rest.contains d) && !rest.contains i && decide (i < l.length) &&
      (match l[i]? with
       | some x => let B := held deps i rest
         rest.all fun j => B.contains j || (match l[j]? with | some y => x.comm y | none => false)
       | none => false) && orderOk deps l rest
def AK.rank : AK → Nat
  | .app _ _ _ _ => 1
  | .alloc _ _ => 2
  | k => if k.quiet then 0 else 3
/-- An order that serves: what is quiet comes as early as it may. -/
def goOrder (deps : List (List Nat)) (l : List AO) : Nat → List Nat → List Nat
  | 0, _ => []
  | n + 1, rest =>
    let rdy := rest.filter fun i => (deps.getD i []).all fun d => !rest.contains d
    let of (r : Nat) := rdy.find? (fun i => match l[i]? with | some o => o.k.rank == r | none => false)
    match (of 0).orElse fun _ => (of 1).orElse fun _ => (of 2).orElse fun _ => rdy.head? with
    | some i => i :: goOrder deps l n (rest.filter (· != i))
    | none => []
def tryOrder (deps : List (List Nat)) (l : List AO) : Option (List AO) :=
  let order := goOrder deps l l.length (List.range l.length)
  if order.length == l.length && orderOk deps l order then some (order.filterMap (l[·]?)) else none
def drawn (tag : Nat) (ops : Array Oper) (l : List AO) : Option (List AO) :=
  if !Region.noSelect ops then none else
  let deps := binding ops
  match tryOrder deps l with
  | some r => some r
  | none => match tryOrder deps (l.map AO.pcall) with
    | some r => some r
    | none =>
      let F := l.filterMap fun o => match o.k with | .store _ (.t d) _ => some (tag + d) | _ => none
      tryOrder deps (l.map (AO.pure F tag))

def withFrz (hs : List Nat) (id : Nat) (c : C) : C := if hs.contains (1000000 + id) then .seq .frz c else c
def abs (P : Program) (G : Nat → AV) (N : Nat) (hs : List Nat) (tag : Nat) : Code → Option C
  | .skip => some .skip
  | .region id ops draw => match absOs P G N hs tag ops ops.toList with
    | some l => if draw then (if P.follows .mixedOrders then (drawn tag ops l).map fun r => withFrz hs id (.reg r) else none) else some (withFrz hs id (.reg l))
    | none => none
  | .seq a b => match abs P G N hs tag a, abs P G N hs tag b with
    | some x, some y => some (.seq x y)
    | _, _ => none
  | .cond c a b => match abs P G N hs tag a, abs P G N hs tag b with
    | some x, some y => some (.cond (.of G [] c) x y)
    | _, _ => none
  | .block id b => (abs P G N hs tag b).map (.block id)
  | .loop b => (abs P G N hs tag b).map .loop
  | .exit id => some (.exit id)
  | .ret => some .ret
  | _ => none

/-- A function's answers: in a slot, or in a variable of its own. -/
inductive RV where
  | t (n : Nat)
  | cell (a sz : Nat) (agg : Bool)
def absRes (P : Program) : List ResultVar → Option (List RV)
  | [] => some []
  | .tmp t :: r => (absRes P r).map (.t t :: ·)
  | .cell a t :: r => if okT P t then (absRes P r).map (.cell a (P.cellsOf t) (aggT P t) :: ·) else none
def rvVC (v : RV) (fr : Fr) (st : St) (K : AV → Prop) : Prop := match v with
  | .t n => withAV (fr.get n) K
  | .cell a sz agg => loadVC sz agg (fr.get a) st K
def rvsVC : List RV → Fr → St → (List AV → Prop) → Prop
  | [], _, _, K => K []
  | v :: r, fr, st, K => rvVC v fr st fun x => rvsVC r fr st fun xs => K (x :: xs)
def retVC (ts : List RV) (fr : Fr) (st : St) (K : AV → Prop) : Prop := match ts with
  | [t] => rvVC t fr st K
  | ts => rvsVC ts fr st fun vs => K (.tup vs)
/-- What a function hands back: named. -/
structure RetGoal (ts : List RV) (R : AV → St → Prop) (fr : Fr) (st : St) : Prop where
  out : ∃ fr1 st1, Frz fr st fr1 st1 ∧ retVC ts fr1 st1 fun r => ∃ st2, St.le st2 st1 ∧ R r st2
end Go.Eng
