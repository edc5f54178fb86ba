/- Proved here: nothing: the reckoner's run, written so that the kernel reduces it with little work. -/
import Derived.Test.YtnbhgeehlcjmdaaGreatV1
import Derived.Test.YtnbhgeehlcjmdaaGreatProg
namespace Go.Ev.F
open Go Go.Ev
/-- the program -/
noncomputable abbrev P : Program := Go.Proofs.Tryz.prog
inductive O
  | nrm (f g : Fr) (h : HT) (n : Nat)
  | ex (id : Nat) (f g : Fr) (h : HT) (n : Nat)
  | ret (f g : Fr) (h : HT) (n : Nat)
  | fail
abbrev K4 := Fr → Fr → HT → Nat → O
abbrev KV := AV → O
abbrev KN := Nat → O
abbrev KL := List AV → O
abbrev KH := HT → O

/-! temporaries -/
noncomputable def fgetS (t : Nat) (κ : KV) (t' : Nat) (v : AV) (ih : O) : O := Bool.rec ih (κ v) (Nat.beq t' t)
noncomputable def fgetK (t : Nat) (κ : KV) (f : Fr) : O :=
  Fr.rec (motive := fun _ => O) O.fail (fun t' v _ ih => fgetS t κ t' v ih) f
noncomputable def getK (t m : Nat) (f g : Fr) (κ : KV) : O :=
  fgetK t κ (Nat.rec (motive := fun _ => Fr) g (fun _ _ => f) (Nat.land (Nat.shiftRight m t) 1))
noncomputable def constK (v : Value) (_ : Nat) (_ _ : Fr) (κ : KV) : O := Option.rec (motive := fun _ => O) O.fail κ (ofValue v)
noncomputable def evalK : Operand → Nat → Fr → Fr → KV → O :=
  Operand.rec (motive := fun _ => Nat → Fr → Fr → KV → O) getK constK
    (fun _ _ _ _ _ => O.fail) (fun fi _ _ _ κ => κ (.fn fi [] []))
noncomputable def putL : Tmp → AV → Nat → K4 → Fr → Fr → HT → Nat → O := fun d v m K f g h nx =>
  Nat.rec (motive := fun _ => O) (K f (.cons d v g) h nx) (fun _ _ => K (.cons d v f) g h nx) (Nat.land (Nat.shiftRight m d) 1)
noncomputable def putK : Option Tmp → AV → Nat → K4 → Fr → Fr → HT → Nat → O :=
  Option.rec (motive := fun _ => AV → Nat → K4 → Fr → Fr → HT → Nat → O) (fun _ _ K => K) putL
noncomputable def putV (d : Option Tmp) (m : Nat) (K : K4) (f g : Fr) (h : HT) (nx : Nat) (v : AV) : O := putK d v m K f g h nx

/-! the heap -/
noncomputable def hgetS : HT → (HT → Nat → O) → O → (Obj → O) → Nat → O :=
  HT.rec (motive := fun _ => (HT → Nat → O) → O → (Obj → O) → Nat → O) (fun _ bad _ _ => bad)
    (fun l v r _ _ ih bad κ k => Nat.rec (motive := fun _ => O) (Option.rec (motive := fun _ => O) bad κ v)
        (fun k _ => ih (Nat.rec (motive := fun _ => HT) l (fun _ _ => r) (Nat.land k 1)) (Nat.shiftRight k 1)) k)
noncomputable def hgetK (h : HT) (k : Nat) (κ : Obj → O) : O :=
  Nat.rec (motive := fun _ => HT → Nat → O) (fun _ _ => O.fail) (fun _ ih t k => hgetS t ih O.fail κ k) 24 h k
noncomputable def hsetL (l : HT) (v : Option Obj) (r : HT) (ih : HT → Nat → KH → O) (k : Nat) (κ : KH) : O :=
  Nat.rec (motive := fun _ => O) (ih l (Nat.shiftRight k 1) (fun l => κ (.n l v r))) (fun _ _ => ih r (Nat.shiftRight k 1) (fun r => κ (.n l v r))) (Nat.land k 1)
noncomputable def hsetS : HT → Option Obj → (HT → Nat → KH → O) → Nat → KH → O :=
  HT.rec (motive := fun _ => Option Obj → (HT → Nat → KH → O) → Nat → KH → O)
    (fun o ih k κ => Nat.rec (motive := fun _ => O) (κ (.n .e o .e)) (fun k _ => hsetL .e none .e ih k κ) k)
    (fun l v r _ _ o ih k κ => Nat.rec (motive := fun _ => O) (κ (.n l o r)) (fun k _ => hsetL l v r ih k κ) k)
noncomputable def hsetK (h : HT) (k : Nat) (o : Option Obj) (κ : KH) : O :=
  Nat.rec (motive := fun _ => HT → Nat → KH → O) (fun t _ κ => κ t) (fun _ ih t k κ => hsetS t o ih k κ) 24 h k κ

noncomputable def objCells : Obj → KL → O :=
  Obj.rec (motive := fun _ => KL → O) (fun l κ => κ l) (fun _ _ _ => O.fail) (fun _ _ => O.fail)
noncomputable def objMap : Obj → (List (AV × AV × Nat) → Nat → O) → O :=
  Obj.rec (motive := fun _ => (List (AV × AV × Nat) → Nat → O) → O) (fun _ _ => O.fail) (fun es c κ => κ es c) (fun _ _ => O.fail)
noncomputable def objLoop : Obj → (LoopO → O) → O :=
  Obj.rec (motive := fun _ => (LoopO → O) → O) (fun _ _ => O.fail) (fun _ _ _ => O.fail) (fun r κ => κ r)
noncomputable def cellsK (h : HT) (b : Nat) (κ : KL) : O := hgetK h b (fun o => objCells o κ)
noncomputable def nthK (l : List AV) : KV → Nat → O :=
  List.rec (motive := fun _ => KV → Nat → O) (fun _ _ => O.fail) (fun v _ ih κ i => Nat.rec (motive := fun _ => O) (κ v) (fun i _ => ih κ i) i) l
noncomputable def takeK (l : List AV) : Nat → KL → O :=
  List.rec (motive := fun _ => Nat → KL → O)
    (fun n κ => Nat.rec (motive := fun _ => O) (κ []) (fun _ _ => O.fail) n)
    (fun v _ ih n κ => Nat.rec (motive := fun _ => O) (κ []) (fun n _ => ih n (fun r => κ (v :: r))) n) l
noncomputable def dropK (l : List AV) : Nat → KL → O :=
  List.rec (motive := fun _ => Nat → KL → O) (fun _ κ => κ []) (fun v r ih i κ => Nat.rec (motive := fun _ => O) (κ (v :: r)) (fun i _ => ih i κ) i) l
noncomputable def okK : AV → Bool :=
  AV.rec (motive_1 := fun _ => Bool) (motive_2 := fun _ => Unit)
    false (fun _ => true) (fun _ _ => true) (fun _ => true) true (fun _ _ => true)
    true (fun _ _ _ _ _ => true) true (fun _ => true) true (fun _ _ _ _ _ => true) (fun _ => true) (fun _ _ => false) (fun _ _ => false) () (fun _ _ _ _ => ())
noncomputable def u8I : IntKind → Bool := IntKind.rec (motive := fun _ => Bool) false false false false true false false false
noncomputable def u8K : AV → Bool :=
  AV.rec (motive_1 := fun _ => Bool) (motive_2 := fun _ => Unit)
    false (fun _ => false) (fun k _ => u8I k) (fun _ => false) false (fun _ _ => false)
    false (fun _ _ _ _ _ => false) false (fun _ => false) false (fun _ _ _ _ _ => false) (fun _ => false) (fun _ _ => false) (fun _ _ => false) () (fun _ _ _ _ => ())
noncomputable def okW (c v : AV) : Bool := Bool.rec (motive := fun _ => Bool) false (Bool.rec (motive := fun _ => Bool) true (u8K v) (u8K c)) (okK v)
noncomputable def writeK (l : List AV) : List AV → KL → O :=
  List.rec (motive := fun _ => List AV → KL → O)
    (fun vs κ => List.rec (motive := fun _ => O) (κ []) (fun _ _ _ => O.fail) vs)
    (fun c r ih vs κ => List.rec (motive := fun _ => O) (κ (c :: r)) (fun v vs _ => Bool.rec (motive := fun _ => O) .fail (ih vs (fun r => κ (v :: r))) (okW c v)) vs) l
noncomputable def setK (vs : List AV) (l : List AV) : Nat → KL → O :=
  List.rec (motive := fun _ => Nat → KL → O) (fun i κ => Nat.rec (motive := fun _ => O) (writeK [] vs κ) (fun _ _ => .fail) i)
    (fun c r ih i κ => Nat.rec (motive := fun _ => O) (writeK (c :: r) vs κ) (fun i _ => ih i (fun r => κ (c :: r))) i) l
noncomputable def appK (l : List AV) : List AV → KL → O :=
  List.rec (motive := fun _ => List AV → KL → O) (fun s κ => κ s) (fun c _ ih s κ => ih s (fun r => κ (c :: r))) l

/-! numbers -/
noncomputable def forceN (n : Nat) (κ : KN) : O := Nat.rec (motive := fun _ => O) (κ 0) (fun p _ => κ (Nat.succ p)) n
noncomputable def posK (n : Nat) (k : IntKind) (κ : KV) : O := forceN n (fun n => κ (.int k (.ofNat n)))
noncomputable def negK (n : Nat) (k : IntKind) (κ : KV) : O := forceN n (fun n => κ (.int k (.negSucc n)))
noncomputable def intK : Int → IntKind → KV → O := Int.rec (motive := fun _ => IntKind → KV → O) posK negK
noncomputable def wrapSlow (k : IntKind) (n : Int) (κ : KV) : O := intK (IntKind.wrap k n) k κ
noncomputable def w64 : Int → KV → O := Int.rec (motive := fun _ => KV → O)
      (fun m κ => Bool.rec (motive := fun _ => O) (wrapSlow .i64 (.ofNat m) κ) (posK m .i64 κ) (Nat.blt m 9223372036854775808))
      (fun m κ => Bool.rec (motive := fun _ => O) (wrapSlow .i64 (.negSucc m) κ) (negK m .i64 κ) (Nat.blt m 9223372036854775808))
noncomputable def wu (k : IntKind) (b : Nat) : Int → KV → O := Int.rec (motive := fun _ => KV → O)
      (fun m κ => posK (Nat.mod m b) k κ) (fun m κ => wrapSlow k (.negSucc m) κ)
noncomputable def wrapK : IntKind → Int → KV → O :=
  IntKind.rec (motive := fun _ => Int → KV → O) (wrapSlow .i8) (wrapSlow .i16) (wrapSlow .i32) w64 (wu .u8 256) (wu .u16 65536) (wu .u32 4294967296) (wu .u64 18446744073709551616)
noncomputable def boolK : Bool → KV → O := Bool.rec (motive := fun _ => KV → O) (fun κ => κ (.bool false)) (fun κ => κ (.bool true))
noncomputable def optK {α : Type} : Option α → (α → O) → O := Option.rec (motive := fun _ => (α → O) → O) (fun _ => O.fail) (fun v κ => κ v)

noncomputable def addN (m : Nat) : Int → Int := Int.rec (motive := fun _ => Int) (fun n => .ofNat (Nat.add m n)) (fun n => Int.add (.ofNat m) (.negSucc n))
noncomputable def addI : Int → Int → Int := Int.rec (motive := fun _ => Int → Int) addN (fun m b => Int.add (.negSucc m) b)
noncomputable def subNN (m n : Nat) : Int := Bool.rec (motive := fun _ => Int) (Nat.rec (motive := fun _ => Int) (.ofNat 0) (fun d _ => .negSucc d) (Nat.sub n m)) (.ofNat (Nat.sub m n)) (Nat.ble n m)
noncomputable def subN (m : Nat) : Int → Int := Int.rec (motive := fun _ => Int) (subNN m) (fun n => .ofNat (Nat.add m (Nat.succ n)))
noncomputable def subI : Int → Int → Int := Int.rec (motive := fun _ => Int → Int) subN (fun m b => Int.sub (.negSucc m) b)
noncomputable def ltN (m : Nat) : Int → Bool := Int.rec (motive := fun _ => Bool) (fun n => Nat.blt m n) (fun _ => false)
noncomputable def ltG (m : Nat) : Int → Bool := Int.rec (motive := fun _ => Bool) (fun _ => true) (fun n => Nat.blt n m)
noncomputable def ltI : Int → Int → Bool := Int.rec (motive := fun _ => Int → Bool) ltN ltG
noncomputable def eqN (m : Nat) : Int → Bool := Int.rec (motive := fun _ => Bool) (fun n => Nat.beq m n) (fun _ => false)
noncomputable def eqG (m : Nat) : Int → Bool := Int.rec (motive := fun _ => Bool) (fun _ => false) (fun n => Nat.beq n m)
noncomputable def eqI : Int → Int → Bool := Int.rec (motive := fun _ => Int → Bool) eqN eqG

abbrev BK := IntKind → Int → Int → KV → O
noncomputable def bSlow (op : BinOp) : BK := fun k a b κ => optK (binInt op k a b) κ
noncomputable def bShift (op : BinOp) : BK := fun k a b κ => optK (shiftA op k a b) κ
noncomputable def bAdd : BK := fun k a b κ => wrapK k (addI a b) κ
noncomputable def bSub : BK := fun k a b κ => wrapK k (subI a b) κ
noncomputable def bEq : BK := fun _ a b κ => boolK (eqI a b) κ
noncomputable def bNe : BK := fun _ a b κ => boolK (Bool.not (eqI a b)) κ
noncomputable def bLt : BK := fun _ a b κ => boolK (ltI a b) κ
noncomputable def bLe : BK := fun _ a b κ => boolK (Bool.not (ltI b a)) κ
noncomputable def bGt : BK := fun _ a b κ => boolK (ltI b a) κ
noncomputable def bGe : BK := fun _ a b κ => boolK (Bool.not (ltI a b)) κ
noncomputable def binTable : BinOp → BK :=
  BinOp.rec (motive := fun _ => BK) bAdd bSub (bSlow .mul) (bSlow .quo) (bSlow .rem) (bSlow .and) (bSlow .or) (bSlow .xor) (bShift .shl) (bShift .shr) (bSlow .andNot) bEq bNe bLt bLe bGt bGe
noncomputable def kindN : IntKind → Nat := IntKind.rec (motive := fun _ => Nat) 0 1 2 3 4 5 6 7
noncomputable def slow2 (x y : AV) (op : BinOp) (t : TypeId) (κ : KV) : O := optK (binA P op t x y) κ
/-- integers: two of a kind -/
noncomputable def bin2 (k' : IntKind) (b : Int) (k : IntKind) (a : Int) (op : BinOp) (t : TypeId) (κ : KV) : O :=
  Bool.rec (motive := fun _ => O) (slow2 (.int k a) (.int k' b) op t κ) (binTable op k a b κ) (Nat.beq (kindN k) (kindN k'))
noncomputable def binY : AV → IntKind → Int → BinOp → TypeId → KV → O :=
  AV.rec (motive_1 := fun _ => IntKind → Int → BinOp → TypeId → KV → O) (motive_2 := fun _ => Unit)
    (fun _ _ _ _ _ => .fail) (fun _ _ _ _ _ _ => .fail) bin2 (fun _ _ _ _ _ _ => .fail) (fun _ _ _ _ _ => .fail) (fun _ _ _ _ _ _ _ => .fail)
    (fun _ _ _ _ _ => .fail) (fun _ _ _ _ _ _ _ _ _ _ => .fail) (fun _ _ _ _ _ => .fail) (fun _ _ _ _ _ _ => .fail) (fun _ _ _ _ _ => .fail) (fun _ _ _ _ _ _ _ _ _ _ => .fail) (fun _ _ _ _ _ _ => .fail) (fun _ _ _ _ _ _ _ => .fail) (fun _ _ _ _ _ _ _ => .fail) () (fun _ _ _ _ => ())
noncomputable def binX : AV → AV → BinOp → TypeId → KV → O :=
  AV.rec (motive_1 := fun _ => AV → BinOp → TypeId → KV → O) (motive_2 := fun _ => Unit)
    (fun _ _ _ _ => .fail) (fun b => slow2 (.bool b)) (fun k a y => binY y k a) (fun l => slow2 (.str l)) (slow2 .pnil) (fun b o => slow2 (.ptr b o))
    (slow2 .snil) (fun a b c d e => slow2 (.sl a b c d e)) (slow2 .mnil) (fun b => slow2 (.mp b)) (slow2 .fnil) (fun a b c _ _ => slow2 (.fn a b c)) (fun _ _ _ _ _ => .fail) (fun l _ => slow2 (.agg l)) (fun _ _ _ _ _ _ => .fail) () (fun _ _ _ _ => ())

/-! looking at a value -/
noncomputable def ptrK : AV → (Nat → Nat → O) → O :=
  AV.rec (motive_1 := fun _ => (Nat → Nat → O) → O) (motive_2 := fun _ => Unit)
    (fun _ => .fail) (fun _ _ => .fail) (fun _ _ _ => .fail) (fun _ _ => .fail) (fun _ => .fail) (fun b o κ => κ b o)
    (fun _ => .fail) (fun _ _ _ _ _ _ => .fail) (fun _ => .fail) (fun _ _ => .fail) (fun _ => .fail) (fun _ _ _ _ _ _ => .fail) (fun _ _ => .fail) (fun _ _ _ => .fail) (fun _ _ _ => .fail) () (fun _ _ _ _ => ())
noncomputable def slcK : AV → (Nat → Nat → Nat → O) → O :=
  AV.rec (motive_1 := fun _ => (Nat → Nat → Nat → O) → O) (motive_2 := fun _ => Unit)
    (fun _ => .fail) (fun _ _ => .fail) (fun _ _ _ => .fail) (fun _ _ => .fail) (fun _ => .fail) (fun _ _ _ => .fail)
    (fun _ => .fail) (fun b o n _ _ κ => κ b o n) (fun _ => .fail) (fun _ _ => .fail) (fun _ => .fail) (fun _ _ _ _ _ _ => .fail) (fun _ _ => .fail) (fun _ _ _ => .fail) (fun _ _ _ => .fail) () (fun _ _ _ _ => ())
noncomputable def natI : Int → KN → O := Int.rec (motive := fun _ => KN → O) (fun n κ => κ n) (fun _ _ => .fail)
noncomputable def natK : AV → KN → O :=
  AV.rec (motive_1 := fun _ => KN → O) (motive_2 := fun _ => Unit)
    (fun _ => .fail) (fun _ _ => .fail) (fun _ n => natI n) (fun _ _ => .fail) (fun _ => .fail) (fun _ _ _ => .fail)
    (fun _ => .fail) (fun _ _ _ _ _ _ => .fail) (fun _ => .fail) (fun _ _ => .fail) (fun _ => .fail) (fun _ _ _ _ _ _ => .fail) (fun _ _ => .fail) (fun _ _ _ => .fail) (fun _ _ _ => .fail) () (fun _ _ _ _ => ())
noncomputable def iteK : Bool → O → O → O := Bool.rec (motive := fun _ => O → O → O) (fun _ e => e) (fun t _ => t)
noncomputable def condK : AV → O → O → O :=
  AV.rec (motive_1 := fun _ => O → O → O) (motive_2 := fun _ => Unit)
    (fun _ _ => .fail) (fun b => iteK b) (fun _ _ _ _ => .fail) (fun _ _ _ => .fail) (fun _ _ => .fail) (fun _ _ _ _ => .fail)
    (fun _ _ => .fail) (fun _ _ _ _ _ _ _ => .fail) (fun _ _ => .fail) (fun _ _ _ => .fail) (fun _ _ => .fail) (fun _ _ _ _ _ _ _ => .fail) (fun _ _ _ => .fail) (fun _ _ _ _ => .fail) (fun _ _ _ _ => .fail) () (fun _ _ _ _ => ())
noncomputable def nilK : AV → KV → O :=
  AV.rec (motive_1 := fun _ => KV → O) (motive_2 := fun _ => Unit)
    (fun _ => .fail) (fun _ _ => .fail) (fun _ _ _ => .fail) (fun _ _ => .fail) (fun _ => .fail) (fun b o κ => κ (.ptr b o))
    (fun _ => .fail) (fun _ _ _ _ _ _ => .fail) (fun _ => .fail) (fun b κ => κ (.mp b)) (fun _ => .fail) (fun a b c _ _ κ => κ (.fn a b c)) (fun l κ => κ (.yld l)) (fun _ _ _ => .fail) (fun _ _ _ => .fail) () (fun _ _ _ _ => ())
noncomputable def tupK : AV → Nat → KV → O :=
  AV.rec (motive_1 := fun _ => Nat → KV → O) (motive_2 := fun _ => Unit)
    (fun _ _ => .fail) (fun _ _ _ => .fail) (fun _ _ _ _ => .fail) (fun _ _ _ => .fail) (fun _ _ => .fail) (fun _ _ _ _ => .fail)
    (fun _ _ => .fail) (fun _ _ _ _ _ _ _ => .fail) (fun _ _ => .fail) (fun _ _ _ => .fail) (fun _ _ => .fail) (fun _ _ _ _ _ _ _ => .fail) (fun _ _ _ => .fail) (fun _ _ _ _ => .fail) (fun l _ i κ => nthK l κ i) () (fun _ _ _ _ => ())
noncomputable def cellsOfV : AV → List AV :=
  AV.rec (motive_1 := fun _ => List AV) (motive_2 := fun _ => Unit)
    [.dead] (fun b => [.bool b]) (fun k n => [.int k n]) (fun l => [.str l]) [.pnil] (fun b o => [.ptr b o])
    [.snil] (fun a b c d e => [.sl a b c d e]) [.mnil] (fun b => [.mp b]) [.fnil] (fun a b c _ _ => [.fn a b c]) (fun l => [.yld l]) (fun l _ => l) (fun l _ => [.tup l]) () (fun _ _ _ _ => ())
noncomputable def lenK : AV → O → KV → O :=
  AV.rec (motive_1 := fun _ => O → KV → O) (motive_2 := fun _ => Unit)
    (fun s _ => s) (fun _ s _ => s) (fun _ _ s _ => s) (fun _ s _ => s) (fun s _ => s) (fun _ _ s _ => s)
    (fun _ κ => κ (.int .i64 (.ofNat 0))) (fun _ _ n _ _ _ κ => κ (.int .i64 (.ofNat n))) (fun s _ => s) (fun _ s _ => s) (fun s _ => s) (fun _ _ _ _ _ s _ => s) (fun _ s _ => s) (fun _ _ s _ => s) (fun _ _ s _ => s) () (fun _ _ _ _ => ())
noncomputable def notK : AV → KV → O :=
  AV.rec (motive_1 := fun _ => KV → O) (motive_2 := fun _ => Unit)
    (fun _ => .fail) (fun b => boolK (Bool.not b)) (fun _ _ _ => .fail) (fun _ _ => .fail) (fun _ => .fail) (fun _ _ _ => .fail)
    (fun _ => .fail) (fun _ _ _ _ _ _ => .fail) (fun _ => .fail) (fun _ _ => .fail) (fun _ => .fail) (fun _ _ _ _ _ _ => .fail) (fun _ _ => .fail) (fun _ _ _ => .fail) (fun _ _ _ => .fail) () (fun _ _ _ _ => ())

abbrev KC := AV → HT → Nat → O
abbrev CF := Nat → List AV → HT → Nat → KC → O
/-- what every step takes: the two ways to call, the mask, the rest, the destination, the frame, the heap -/
abbrev S := CF → CF → Nat → K4 → Option Tmp → Fr → Fr → HT → Nat → O
noncomputable def calleeK : AV → CF → CF → List AV → HT → Nat → KC → O :=
  AV.rec (motive_1 := fun _ => CF → CF → List AV → HT → Nat → KC → O) (motive_2 := fun _ => Unit)
    (fun _ _ _ _ _ _ => .fail) (fun _ _ _ _ _ _ _ => .fail) (fun _ _ _ _ _ _ _ _ => .fail) (fun _ _ _ _ _ _ _ => .fail) (fun _ _ _ _ _ _ => .fail) (fun _ _ _ _ _ _ _ _ => .fail)
    (fun _ _ _ _ _ _ => .fail) (fun _ _ _ _ _ _ _ _ _ _ _ => .fail) (fun _ _ _ _ _ _ => .fail) (fun _ _ _ _ _ _ _ => .fail) (fun _ _ _ _ _ _ => .fail)
    (fun gi first caps _ _ cf _ args h nx κ => appK args caps (fun l => appK first l (fun l => cf gi l h nx κ)))
    (fun l _ yf args h nx κ => yf l args h nx κ) (fun _ _ _ _ _ _ _ _ => .fail) (fun _ _ _ _ _ _ _ _ => .fail) () (fun _ _ _ _ => ())

noncomputable def sMove : Operand → S := fun x _ _ m K d f g h nx => evalK x m f g (putV d m K f g h nx)
noncomputable def sPick : Operand → Operand → Operand → S := fun c a b _ _ m K d f g h nx =>
  evalK c m f g (fun c => condK c (evalK a m f g (putV d m K f g h nx)) (evalK b m f g (putV d m K f g h nx)))
noncomputable def newK (d : Option Tmp) (m : Nat) (K : K4) (f g : Fr) (h : HT) (nx : Nat) (z : AV) : O :=
  hsetK h nx (some (.cells (cellsOfV z))) (fun h => putK d (.ptr nx 0) m K f g h (Nat.succ nx))
noncomputable def sAlloc : TypeId → S := fun t _ _ m K d f g h nx => optK (zeroT P t) (newK d m K f g h nx)
noncomputable def sBox : TypeId → Operand → S := fun _ x _ _ m K d f g h nx => evalK x m f g (newK d m K f g h nx)
noncomputable def loadAgg (κ : KV) (cs : List AV) (off : Nat) (n : Nat) : O := Nat.rec (motive := fun _ => O) .fail (fun _ _ => dropK cs off (fun l => takeK l n (fun l => κ (.agg l)))) n
noncomputable def loadB : Bool → TypeId → KV → List AV → Nat → O := Bool.rec (motive := fun _ => TypeId → KV → List AV → Nat → O)
  (fun _ κ cs off => nthK cs κ off) (fun t κ cs off => optK (sizeT P t) (loadAgg κ cs off))
noncomputable def loadC (t : TypeId) (κ : KV) (off : Nat) (cs : List AV) : O := optK (isAggT P t) (fun b => loadB b t κ cs off)
noncomputable def loadP (t : TypeId) (κ : KV) (h : HT) (b off : Nat) : O := cellsK h b (loadC t κ off)
noncomputable def sLoad : TypeId → Operand → S := fun t a _ _ m K d f g h nx =>
  evalK a m f g (fun a => ptrK a (loadP t (putV d m K f g h nx) h))
noncomputable def lenN (l : List AV) : Nat := List.rec (motive := fun _ => Nat) 0 (fun _ _ ih => Nat.succ ih) l
noncomputable def storeP (t : TypeId) (h : HT) (v : AV) (κ : KH) (b off : Nat) : O :=
  optK (sizeT P t) (fun n => Bool.rec (motive := fun _ => O) .fail
    (cellsK h b (fun cs => setK (cellsOfV v) cs off (fun cs => hsetK h b (some (.cells cs)) κ))) (Nat.beq (lenN (cellsOfV v)) n))
noncomputable def sStore : TypeId → Operand → Operand → S := fun t a x _ _ m K d f g h nx =>
  evalK x m f g (fun v => evalK a m f g (fun a => ptrK a (storeP t h v (fun h => putK d .dead m K f g h nx))))
noncomputable def sNil : Operand → S := fun x _ _ m K d f g h nx => evalK x m f g (fun v => nilK v (putV d m K f g h nx))
noncomputable def sBin : BinOp → TypeId → Operand → Operand → TypeId → S := fun op t x y _ _ _ m K d f g h nx =>
  evalK x m f g (fun x => evalK y m f g (fun y => binX x y op t (putV d m K f g h nx)))
noncomputable def addPtr (κ : KV) (b : Nat) (off : Nat) : O := forceN off (fun off => κ (.ptr b off))
noncomputable def fieldP (s : TypeId) (i : Nat) (κ : KV) (b off : Nat) : O := optK (fieldOff P s i) (fun o => addPtr κ b (Nat.add off o))
noncomputable def sFieldAddr : TypeId → Operand → Nat → S := fun s x i _ _ m K d f g h nx =>
  evalK x m f g (fun x => ptrK x (fieldP s i (putV d m K f g h nx)))
noncomputable def boundK (κ : KV) (i n : Nat) (b off len : Nat) : O := iteK (Nat.blt i len) (addPtr κ b (Nat.add off (Nat.mul i n))) .fail
noncomputable def idxW : Option Nat → Nat → KV → AV → Nat → O := Option.rec (motive := fun _ => Nat → KV → AV → Nat → O)
  (fun n κ x i => slcK x (boundK κ i n)) (fun len n κ x i => ptrK x (fun b off => boundK κ i n b off len))
noncomputable def idx2 (κ : KV) (x : AV) (i : Nat) : Option Nat × Nat → O := Prod.rec (motive := fun _ => O) (fun q n => idxW q n κ x i)
noncomputable def sIndexAddr : TypeId → Operand → Operand → S := fun t x ix _ _ m K d f g h nx =>
  evalK x m f g (fun x => evalK ix m f g (fun ix => natK ix (fun i => optK (elemInfo P t) (idx2 (putV d m K f g h nx) x i))))
noncomputable def sExtract : Operand → Nat → S := fun t i _ _ m K d f g h nx => evalK t m f g (fun t => tupK t i (putV d m K f g h nx))
noncomputable def argsK (m : Nat) (f g : Fr) (l : List Operand) : KL → O :=
  List.rec (motive := fun _ => KL → O) (fun κ => κ []) (fun x _ ih κ => evalK x m f g (fun v => ih (fun r => κ (v :: r)))) l
/-- an operand's value -/
noncomputable def evalA (m : Nat) (f g : Fr) : Env := fun x => match x with
  | .tmp t => if m.testBit t then f.get t else g.get t
  | .const v => ofValue v
  | .global _ => none
  | .func fi => some (.fn fi [] [])
noncomputable def upsK (u : Ups) : HT → KH → O :=
  List.rec (motive := fun _ => HT → KH → O) (fun h κ => κ h) (fun p _ ih h κ => hsetK h p.1 p.2 (fun h => ih h κ)) u
/-- the slow way: by what the operation does, as it is told -/
noncomputable def r3K (d : Option Tmp) (m : Nat) (K : K4) (f g : Fr) (h : HT) (r : R3) : O :=
  optK r (fun q => upsK q.2.1 h (fun h => putK d q.1 m K f g h q.2.2))
noncomputable def sUnSlow (op : UnOp) (x : Operand) : S := fun _ _ m K d f g h nx => r3K d m K f g h (oUn (evalA m f g) op x nx)
noncomputable def sUn : UnOp → TypeId → Operand → S := UnOp.rec (motive := fun _ => TypeId → Operand → S)
  (fun _ x => sUnSlow .neg x) (fun _ x => sUnSlow .xor x) (fun _ x _ _ m K d f g h nx => evalK x m f g (fun v => notK v (putV d m K f g h nx))) (fun _ x => sUnSlow .plus x)
noncomputable def kcall (d : Option Tmp) (m : Nat) (K : K4) (f g : Fr) : KC := fun v h nx => putK d v m K f g h nx
noncomputable def cValue : Operand → Call → S := fun q c cf yf m K d f g h nx =>
  argsK m f g c.args.toList (fun args => evalK q m f g (fun q => calleeK q cf yf args h nx (kcall d m K f g)))
noncomputable def cLen1 (c : Call) (m : Nat) (K : K4) (d : Option Tmp) (f g : Fr) (h : HT) (nx : Nat) (x : Operand) : O :=
  evalK x m f g (fun x => iteK (isSlT P c.argTypes) (lenK x (r3K d m K f g h (oBuiltin P (evalA m f g) .len c.args c.argTypes h nx)) (putV d m K f g h nx)) (r3K d m K f g h (oBuiltin P (evalA m f g) .len c.args c.argTypes h nx)))
noncomputable def cLen : Call → S := fun c _ _ m K d f g h nx =>
  List.rec (motive := fun _ => O) .fail (fun x r _ => List.rec (motive := fun _ => O) (cLen1 c m K d f g h nx x) (fun _ _ _ => .fail) r) c.args.toList
noncomputable def cSlow (b : Builtin) : Call → S := fun c _ _ m K d f g h nx => r3K d m K f g h (oBuiltin P (evalA m f g) b c.args c.argTypes h nx)
noncomputable def cNone : Call → S := fun _ _ _ _ _ _ _ _ _ _ => .fail
noncomputable def cBuiltin : Builtin → Call → S := Builtin.rec (motive := fun _ => Call → S)
  (cSlow .append) (cSlow .cap) (cSlow .clear) cNone cNone (cSlow .copy) cNone cNone cLen cNone (cSlow .max) (cSlow .min) cNone cNone cNone cNone cNone cNone cNone cNone cNone cNone cNone cNone cNone cNone
noncomputable def cTable : Callee → Call → S := Callee.rec (motive := fun _ => Call → S)
  cValue (fun _ _ _ _ _ _ _ _ _ _ _ _ => .fail) cBuiltin
noncomputable def sCall : Call → S := fun c => cTable c.callee c
noncomputable def z_build : TypeId → Array (Nat × Operand) → S := fun a b => (fun _ _ m K d f g h nx => r3K d m K f g h (oBuild P (evalA m f g) a b nx) : S)
noncomputable def z_buildSlice : TypeId → Nat → Array (Nat × Operand) → S := fun a b c => (fun _ _ m K d f g h nx => r3K d m K f g h (oBuildSlice P (evalA m f g) a b c nx) : S)
noncomputable def z_insert : TypeId → Operand → Operand → Operand → S := fun a b c d' => (fun _ _ m K d f g h nx => r3K d m K f g h (oUpdate P (evalA m f g) a b c d' h nx) : S)
noncomputable def z_convert : TypeId → TypeId → Operand → S := fun a b c => (fun _ _ m K d f g h nx => r3K d m K f g h (oConv P (evalA m f g) a b c h nx) : S)
noncomputable def z_makeFunc : Fn → Array Operand → Array Operand → S := fun a b c => (fun _ _ m K d f g h nx => r3K d m K f g h (oFunc (evalA m f g) a b c nx) : S)
noncomputable def z_makeMap : TypeId → Option Operand → S := fun a b => (fun _ _ m K d f g h nx => r3K d m K f g h (oMakeMap P (evalA m f g) a b nx) : S)
noncomputable def z_makeSlice : TypeId → Operand → Operand → S := fun a b c => (fun _ _ m K d f g h nx => r3K d m K f g h (oMakeSlice P (evalA m f g) a b c nx) : S)
noncomputable def z_slice : TypeId → Operand → Option Operand → Option Operand → Option Operand → S := fun a b c d' e => (fun _ _ m K d f g h nx => r3K d m K f g h (oSlice P (evalA m f g) a b c d' e nx) : S)
noncomputable def z_field : TypeId → Operand → Nat → S := fun a b c => (fun _ _ m K d f g h nx => r3K d m K f g h (oField P (evalA m f g) a b c nx) : S)
noncomputable def z_index : TypeId → Operand → Operand → S := fun a b c => (fun _ _ m K d f g h nx => r3K d m K f g h (oIndex P (evalA m f g) a b c nx) : S)
noncomputable def z_lookup : TypeId → Operand → Operand → Bool → S := fun a b c d' => (fun _ _ m K d f g h nx => r3K d m K f g h (oLookup P (evalA m f g) a b c d' h nx) : S)
noncomputable def z_mapUpdate : TypeId → Operand → Operand → Operand → S := fun a b c d' => (fun _ _ m K d f g h nx => r3K d m K f g h (oUpdate P (evalA m f g) a b c d' h nx) : S)
noncomputable def z_mapEntry : TypeId → Operand → Operand → S := fun a b c => (fun _ _ m K d f g h nx => r3K d m K f g h (oEntry P (evalA m f g) a b c h nx) : S)
noncomputable def z_entryStore : TypeId → Operand → Operand → Operand → S := fun _ b c d' => (fun _ _ m K d f g h nx => r3K d m K f g h (oStamp (evalA m f g) b c d' h nx) : S)
noncomputable def stepT : Op → S := Op.rec (motive := fun _ => S)
  sMove sMove sPick sAlloc sBox z_build z_buildSlice z_insert
  sLoad sStore (fun _ _ _ _ _ _ _ _ _ _ => .fail) (fun _ _ _ _ _ _ _ _ _ _ => .fail) sNil sBin sUn z_convert (fun _ _ _ _ _ _ _ _ _ _ _ => .fail) (fun _ _ _ _ _ _ _ _ _ _ _ => .fail)
  z_makeFunc z_makeMap (fun _ _ _ _ _ _ _ _ _ _ _ => .fail) z_makeSlice z_slice
  sFieldAddr z_field sIndexAddr z_index z_lookup z_mapUpdate z_mapEntry z_entryStore
  (fun _ _ _ _ _ _ _ _ _ _ _ => .fail) (fun _ _ _ _ _ _ _ _ _ _ _ => .fail) (fun _ _ _ _ _ _ _ _ _ _ => .fail) (fun _ _ _ _ _ _ _ _ _ _ _ _ _ => .fail) sExtract sCall
  (fun _ _ _ _ _ _ _ _ _ _ => .fail) (fun _ _ _ _ _ _ _ _ _ _ => .fail) (fun _ _ _ _ _ _ _ _ _ _ => .fail) (fun _ _ _ _ _ _ _ _ _ _ _ => .fail) (fun _ _ _ _ _ _ _ _ _ _ _ _ => .fail) (fun _ _ _ _ _ _ _ _ _ _ _ => .fail)
noncomputable def dstOf (ops : List Oper) (j : Nat) : Option Tmp := match ops[j]? with
  | some q => q.dst
  | none => none
noncomputable def guarded (ops : List Oper) (m : Nat) (f g : Fr) (yes no : O) : Nat × Bool → O := Prod.rec (motive := fun _ => O)
  (fun j want => Option.rec (motive := fun _ => O) no (fun d => getK d m f g (fun v => AV.rec (motive_1 := fun _ => O) (motive_2 := fun _ => Unit)
    no (fun b => Bool.rec (motive := fun _ => O) (iteK want no yes) (iteK want yes no) b) (fun _ _ => no) (fun _ => no) no (fun _ _ => no) no (fun _ _ _ _ _ => no) no (fun _ => no) no (fun _ _ _ _ _ => no) (fun _ => no) (fun _ _ => no) (fun _ _ => no) () (fun _ _ _ _ => ()) v)) (dstOf ops j))
noncomputable def guardT : Option (Nat × Bool) → List Oper → Op → S := Option.rec (motive := fun _ => List Oper → Op → S)
  (fun _ op => stepT op)
  (fun q ops op cf yf m K d f g h nx => guarded ops m f g (stepT op cf yf m K d f g h nx) (putK d .dead m K f g h nx) q)
noncomputable def opsK (ops : List Oper) (cf yf : CF) (m : Nat) (K : K4) (l : List Oper) : K4 :=
  List.rec (motive := fun _ => K4) K (fun o _ ih => guardT o.guard ops o.op cf yf m ih o.dst) l

abbrev C := CF → CF → Nat → K4

/-! regions that draw their order: the order in which they are run here, and what is looked at again -/
def opKind (P : Program) (op : Op) : Nat := match op with
  | .move _ | .assign _ | .pick .. | .nilCheck _ | .binOp .. | .unOp .. | .fieldAddr .. | .field .. | .indexAddr .. | .index .. | .extract .. | .build .. | .makeFunc .. | .slice .. => 0
  | .load .. | .lookup .. => 1
  | .convert _ dst _ => (match P.underlying dst with | some (.int _) => 0 | some .string => 1 | _ => 3)
  | .alloc _ | .box .. | .buildSlice .. | .makeMap .. | .makeSlice .. => 2
  | .call c => (match c.callee with
    | .builtin .len => 1
    | .builtin .cap | .builtin .min | .builtin .max => 0
    | _ => 3)
  | _ => 3
def edgeBits (acc : List Nat) (o : Oper) : Nat := o.after.toList.foldl (fun s e => if Region.binds .any e then s ||| (1 <<< e.on) ||| acc.getD e.on 0 else s) 0
def cloL (acc : List Nat) : List Oper → List Nat
  | [] => acc
  | o :: r => cloL (acc ++ [edgeBits acc o]) r
/-- an operation of a region: its place, itself, what is ahead of it, its kind -/
structure Pt where
  ix : Nat
  o : Oper
  cl : Nat
  kd : Nat
def ptsOf (P : Program) : Nat → List Oper → List Nat → List Pt
  | i, o :: r, c :: cs => ⟨i, o, c, opKind P o.op⟩ :: ptsOf P (i + 1) r cs
  | _, _, _ => []
/-- a step: an operation, and the reads that are looked at again behind it -/
structure Stp where
  pt : Pt
  re : List Pt
def subB (a b : Nat) : Bool := a &&& b == a
/-- what can be done ahead of a heavy one -/
def early (need : Nat) : List Pt → Nat → List Pt
  | [], _ => []
  | p :: r, dn => if !dn.testBit p.ix && subB p.cl dn && (p.kd ≤ 1 || p.kd == 2 && need.testBit p.ix) then p :: early need r (dn ||| (1 <<< p.ix)) else early need r dn
def bitsOf (l : List Pt) (dn : Nat) : Nat := l.foldl (fun d p => d ||| (1 <<< p.ix)) dn
def readsOK (last : Option Nat) (l : List Pt) : Bool := l.all fun p => p.kd != 1 || (match last with | none => true | some k => p.cl.testBit k)
def stages (all : List Pt) : List Pt → List Pt → Nat → Option Nat → Option (List Stp)
  | [], _, dn, last =>
    let l := early (2 ^ 64 - 1) all dn
    if readsOK last l && bitsOf l dn == 2 ^ all.length - 1 then some (l.map fun p => ⟨p, []⟩) else none
  | k :: ks, rd, dn, last =>
    let l := early k.cl all dn
    let dn := bitsOf l dn
    let rd := rd ++ l.filter fun p => p.kd == 1
    if readsOK last l && subB k.cl dn && (match last with | none => true | some j => k.cl.testBit j) then
      (match stages all ks rd (dn ||| (1 <<< k.ix)) (some k.ix) with
      | some r => some ((l.map fun p => (⟨p, []⟩ : Stp)) ++ (⟨k, rd.filter fun p => !k.cl.testBit p.ix⟩ : Stp) :: r)
      | none => none)
    else none
def tmpsOf (o : Oper) : List Nat := o.op.operands.toList.filterMap fun x => match x with | .tmp t => some t | _ => none
/-- each temporary is written once; who reads it stands ahead of that, or behind it -/
def namesOK (ops : List Oper) (all : List Pt) : Bool :=
  all.all fun p => all.all fun q => p.ix == q.ix || (match q.o.dst with
    | none => true
    | some d => p.o.dst != some d && (!((tmpsOf p.o).contains d || (match p.o.guard with | some (j, _) => (match ops[j]? with | some w => w.dst == some d | none => false) | none => false)) || p.cl.testBit q.ix || q.cl.testBit p.ix))
/-- does an operation read a name, itself or by its guard? -/
def readsN (ops : List Oper) (p : Pt) (d : Tmp) : Bool :=
  (tmpsOf p.o).contains d || (match p.o.guard with | some (j, _) => (match ops[j]? with | some w => w.dst == some d | none => false) | none => false)
/-- reads come behind who writes what they look at -/
def readsB (ops : List Oper) (all : List Pt) : Bool := all.all fun p => p.kd != 1 || all.all fun q => match q.o.dst with
  | none => true
  | some d => !(readsN ops p d) || p.cl.testBit q.ix
/-- an earlier step and a later one -/
def relS (s q : Stp) : Bool := s.pt.ix != q.pt.ix &&
  (if q.pt.kd == 3 then q.pt.cl.testBit s.pt.ix || s.pt.kd == 0 || (s.pt.kd == 1 && q.re.any fun p => p.ix == s.pt.ix)
   else if q.pt.kd == 1 then s.pt.kd != 3 || q.pt.cl.testBit s.pt.ix else true)
def pairB : List Stp → Bool
  | [] => true
  | s :: r => r.all (relS s) && pairB r
def ordB : List Stp → Nat → Bool
  | [], _ => true
  | s :: r, dn => subB s.pt.cl dn && ordB r (dn ||| (1 <<< s.pt.ix))
def coverB (n : Nat) (l : List Stp) : Bool := (List.range n).all fun i => l.any fun s => s.pt.ix == i
def planOf (P : Program) (ops : List Oper) : Option (List Stp) :=
  let all := ptsOf P 0 ops (cloL [] ops)
  if namesOK ops all && readsB ops all then (match stages all (all.filter fun p => p.kd == 3) [] 0 none with
    | some l => if ordB l 0 && pairB l && coverB ops.length l then some l else none
    | none => none) else none
/-- two values that are surely the same -/
def same0 : AV → AV → Bool
  | .bool a, .bool b => a == b
  | .int k a, .int k' b => k == k' && a == b
  | .pnil, .pnil | .snil, .snil | .mnil, .mnil | .fnil, .fnil => true
  | .ptr a b, .ptr a' b' => a == a' && b == b'
  | .sl a b c d e, .sl a' b' c' d' e' => a == a' && b == b' && c == c' && d == d' && e == e'
  | .mp a, .mp b => a == b
  | .str a, .str b => a == b
  | .fn f [] [], .fn g [] [] => f == g
  | .dead, .dead => true
  | _, _ => false
def sameL : List AV → List AV → Bool
  | [], [] => true
  | a :: r, b :: s => same0 a b && sameL r s
  | _, _ => false
def sameV : AV → AV → Bool
  | .agg a, .agg b => sameL a b
  | a, b => same0 a b
/-- a read, looked at again: is it what it was? -/
def again (P : Program) (ops : List Oper) (ρ : Env) (h : HT) (o : Oper) : Bool :=
  let go : Bool := (match o.dst, opS P ρ o.op h 0 with
    | some d, some (v, _, _) => (match ρ (.tmp d) with | some w => sameV v w | none => false)
    | _, _ => false)
  match o.guard with
  | none => go
  | some (j, want) => (match ops[j]? with
    | some q => (match q.dst with
      | some d => (match ρ (.tmp d) with
        | some (.bool b) => if b == want then go else true
        | some _ => true
        | none => false)
      | none => true)
    | none => true)
noncomputable def againK (ops : List Oper) (m : Nat) (re : List Pt) (K : K4) : K4 := fun f g h nx =>
  iteK (re.all fun p => again P ops (evalA m f g) h p.o) (K f g h nx) .fail
noncomputable def stepsK (ops : List Oper) (cf yf : CF) (m : Nat) (K : K4) (l : List Stp) : K4 :=
  List.rec (motive := fun _ => K4) K (fun s _ ih => guardT s.pt.o.guard ops s.pt.o.op cf yf m
    (List.rec (motive := fun _ => K4) ih (fun p r _ => againK ops m (p :: r) ih) s.re) s.pt.o.dst) l
noncomputable def regionK : Bool → List Oper → C := Bool.rec (motive := fun _ => List Oper → C)
  (fun ops cf yf m f _ h n => opsK ops cf yf m O.nrm ops f .nil h n)
  (fun ops cf yf m f _ h n => optK (planOf P ops) (fun l => stepsK ops cf yf m O.nrm l f .nil h n))
noncomputable def trimS (t : Nat) (v : AV) (ih : Nat → (Fr → O) → O) (seen : Nat) (κ : Fr → O) : O :=
  Nat.rec (motive := fun _ => O) (ih (Nat.lor seen (Nat.shiftLeft 1 t)) (fun r => κ (.cons t v r))) (fun _ _ => ih seen κ) (Nat.land (Nat.shiftRight seen t) 1)
noncomputable def trimK (f : Fr) (κ : Fr → O) : O :=
  Fr.rec (motive := fun _ => Nat → (Fr → O) → O) (fun _ κ => κ .nil) (fun t v _ ih => trimS t v ih) f 0 κ

noncomputable def thenK : O → K4 → O := O.rec (motive := fun _ => K4 → O) (fun f g h n k => k f g h n) (fun id f g h n _ => O.ex id f g h n) (fun f g h n _ => O.ret f g h n) (fun _ => O.fail)
noncomputable def blockE (id id' : Nat) (f g : Fr) (h : HT) (n : Nat) : O := iteK (Nat.beq id' id) (.nrm f g h n) (.ex id' f g h n)
noncomputable def blockK : O → Nat → O := O.rec (motive := fun _ => Nat → O) (fun f g h n _ => O.nrm f g h n) (fun id' f g h n id => blockE id id' f g h n) (fun f g h n _ => O.ret f g h n) (fun _ => O.fail)
noncomputable def loopK (e : K4) : K4 := Nat.rec (motive := fun _ => K4) (fun _ _ _ _ => .fail)
      (fun _ again f g h n => thenK (e f g h n) (fun f _ h n => trimK f (fun f => again f .nil h n))) 100000
noncomputable def endRange (f g : Fr) (nx : Nat) (h : HT) (r : LoopO) : O := match r.state with
    | .busy => .fail
    | _ => match r.pending with
      | none => .nrm f g h nx
      | some .ret => .ret f g h nx
      | some (.exit id) => .ex id f g h nx
      | _ => .fail
noncomputable def rangeK (ps : Array Tmp) (asg body : Code) (cf : CF) (m : Nat) (f g : Fr) (h : HT) (nx : Nat) (q : AV) : O :=
    hsetK h nx (some (.loop { state := .ready, pending := none, fr := f, params := ps, assign := asg, body := body, mask := m })) (fun h =>
      calleeK q cf (fun _ _ _ _ _ => .fail) [.yld nx] h (Nat.succ nx) (fun _ h nx' => hgetK h nx (fun o => objLoop o (fun r => hsetK h nx none (fun h => endRange f g nx' h r)))))
noncomputable def codeK : Code → C :=
  Code.rec (motive := fun _ => C)
    (fun _ _ _ => O.nrm)                                   -- skip
    (fun _ ops d => regionK d ops.toList)
    (fun _ _ ea eb cf yf m f g h n => thenK (ea cf yf m f g h n) (eb cf yf m))
    (fun c _ _ ea eb cf yf m f g h n => evalK c m f g (fun v => condK v (ea cf yf m f g h n) (eb cf yf m f g h n)))
    (fun id _ e cf yf m f g h n => blockK (e cf yf m f g h n) id)
    (fun _ e cf yf m => loopK (e cf yf m))
    (fun q ps asg body _ _ cf _ m f g h nx => evalK q m f g (rangeK ps asg body cf m f g h nx))
    (fun id _ _ _ f g h n => O.ex id f g h n)
    (fun _ e => e)
    (fun _ _ _ _ => O.nrm)
    (fun _ _ _ _ _ _ _ _ => O.fail)
    (fun _ _ _ => O.ret)
    (fun _ _ _ _ _ _ _ _ => O.fail)

noncomputable def setPars (m : Nat) (κ : Fr → Fr → O) (ps : List Tmp) : List AV → Fr → Fr → O :=
  List.rec (motive := fun _ => List AV → Fr → Fr → O) (fun vs f g => List.rec (motive := fun _ => O) (κ f g) (fun _ _ _ => .fail) vs)
    (fun t _ ih vs f g => List.rec (motive := fun _ => O) .fail (fun v vs _ => Nat.rec (motive := fun _ => O) (ih vs f (.cons t v g)) (fun _ _ => ih vs (.cons t v f) g) (Nat.land (Nat.shiftRight m t) 1)) vs) ps
noncomputable def endRound (l : Nat) (κ : KC) (j : Option Code) (h : HT) (nx : Nat) : O :=
  hgetK h l (fun o => objLoop o (fun r => hsetK h l (some (.loop { r with state := (if j.isNone then .ready else .done), pending := j })) (fun h => κ (.bool j.isNone) h nx)))
noncomputable def beginRound (cf yf : CF) (l : Nat) (κ : KC) (body : Code) (m : Nat) (f g : Fr) (h : HT) (nx : Nat) (r : LoopO) : O :=
    match r.state with
    | .ready => hsetK h l (some (.loop { r with state := .busy })) (fun h =>
        O.rec (motive := fun _ => O) (fun _ _ h nx => endRound l κ none h nx) (fun id _ _ h nx => endRound l κ (some (.exit id)) h nx) (fun _ _ h nx => endRound l κ (some .ret) h nx) .fail
          (codeK body cf yf m f g h nx))
    | _ => .fail
noncomputable def onlyK : O → K4 → O := O.rec (motive := fun _ => K4 → O) (fun f g h n k => k f g h n) (fun _ _ _ _ _ _ => .fail) (fun _ _ _ _ _ => .fail) (fun _ => .fail)
noncomputable def yieldK (cf yf : CF) : CF := fun l args h nx κ => hgetK h l (fun o => objLoop o (fun r =>
  setPars r.mask (fun f g => onlyK (codeK r.assign cf yf r.mask f g h nx) (fun f g h nx => hgetK h l (fun o => objLoop o (beginRound cf yf l κ r.body r.mask f g h nx)))) r.params.toList args r.fr .nil))
noncomputable def resT : ResultVar → Nat → HT → Fr → Fr → KV → O := ResultVar.rec (motive := fun _ => Nat → HT → Fr → Fr → KV → O)
  (fun t m _ f g κ => getK t m f g κ) (fun a t m h f g κ => getK a m f g (fun v => ptrK v (loadP t κ h)))
noncomputable def resK (m : Nat) (h : HT) (f g : Fr) (rs : List ResultVar) : KL → O :=
  List.rec (motive := fun _ => KL → O) (fun κ => κ []) (fun r _ ih κ => resT r m h f g (fun v => ih (fun r => κ (v :: r)))) rs
noncomputable def oneRes (κ : KV) (l : List AV) : O := List.rec (motive := fun _ => O) (κ (.tup [])) (fun v r _ => List.rec (motive := fun _ => O) (κ v) (fun _ _ _ => κ (.tup (v :: r))) r) l
noncomputable def fromRes (m : Nat) (rs : List ResultVar) (κ : KC) : K4 := fun f g h nx => resK m h f g rs (oneRes (fun v => κ v h nx))
noncomputable def leaveK : O → K4 → O := O.rec (motive := fun _ => K4 → O) (fun f g h n k => k f g h n) (fun _ _ _ _ _ _ => .fail) (fun f g h n k => k f g h n) (fun _ => .fail)
noncomputable def framK (l : List AV) : Nat → Fr → (Fr → O) → O := List.rec (motive := fun _ => Nat → Fr → (Fr → O) → O) (fun _ f κ => κ f) (fun v _ ih i f κ => ih (Nat.succ i) (.cons i v f) κ) l
noncomputable def enterK (masks : Nat → Nat) (cf yf : CF) (fi : Nat) (args : List AV) (h : HT) (nx : Nat) (κ : KC) : Code × List ResultVar → O := Prod.rec (motive := fun _ => O)
  (fun c rs => framK args 0 .nil (fun f => leaveK (codeK c cf yf (masks fi) f .nil h nx) (fromRes (masks fi) rs κ)))

/-! calls that were made before -/
structure Ent where
  fi : Nat
  args : List AV
  hin : List (Nat × Obj)
  n0 : Nat
  res : AV
  new : List Obj
abbrev Ren := List (Nat × Nat)
def renGet : Ren → Nat → Option Nat
  | [], _ => none
  | (a, b) :: r, k => if Nat.beq a k then some b else renGet r k
def renHas : Ren → Nat → Bool
  | [], _ => false
  | (_, b) :: r, k => Nat.beq b k || renHas r k
def bindB (ρ : Ren) (a b : Nat) : Option Ren := match renGet ρ a with
  | some c => if Nat.beq c b then some ρ else none
  | none => if renHas ρ b then none else some ((a, b) :: ρ)
/-- a value that has no parts: does it fit another one? -/
def fit0 (p a : AV) (ρ : Ren) : Option Ren := match p, a with
  | .dead, .dead => some ρ
  | .bool x, .bool y => if x == y then some ρ else none
  | .int k x, .int k' y => if k == k' && x == y then some ρ else none
  | .str x, .str y => if x == y then some ρ else none
  | .pnil, .pnil => some ρ
  | .ptr b o, .ptr b' o' => if Nat.beq o o' then bindB ρ b b' else none
  | .snil, .snil => some ρ
  | .sl b o n c q, .sl b' o' n' c' q' => if Nat.beq o o' && Nat.beq n n' && Nat.beq c c' && Nat.beq q q' then bindB ρ b b' else none
  | .mnil, .mnil => some ρ
  | .mp b, .mp b' => bindB ρ b b'
  | .fnil, .fnil => some ρ
  | .fn x [] [], .fn y [] [] => if Nat.beq x y then some ρ else none
  | _, _ => none
def fitL (ft : AV → AV → Ren → Option Ren) : List AV → List AV → Ren → Option Ren
  | [], [], ρ => some ρ
  | p :: ps, a :: as', ρ => (match ft p a ρ with | some ρ => fitL ft ps as' ρ | none => none)
  | _, _, _ => none
def fit1 (p a : AV) (ρ : Ren) : Option Ren := match p, a with
  | .agg x, .agg y => fitL fit0 x y ρ
  | .fn x a b, .fn y c d => if Nat.beq x y then (match fitL fit0 a c ρ with | some ρ => fitL fit0 b d ρ | none => none) else none
  | p, a => fit0 p a ρ
def fit2 (p a : AV) (ρ : Ren) : Option Ren := match p, a with
  | .tup x, .tup y => fitL fit1 x y ρ
  | p, a => fit1 p a ρ
def fitE : List (AV × AV × Nat) → List (AV × AV × Nat) → Ren → Option Ren
  | [], [], ρ => some ρ
  | (k, v, b) :: r, (k', v', b') :: r', ρ => if Nat.beq b b' then (match fit1 k k' ρ with
      | some ρ => (match fit1 v v' ρ with | some ρ => fitE r r' ρ | none => none)
      | none => none) else none
  | _, _, _ => none
def fitO (p a : Obj) (ρ : Ren) : Option Ren := match p, a with
  | .cells x, .cells y => fitL fit1 x y ρ
  | .map x c, .map y c' => if Nat.beq c c' then fitE x y ρ else none
  | _, _ => none
/-- the heap that a call wants: each block is bound by then -/
def fitH (h : HT) : List (Nat × Obj) → Ren → Option Ren
  | [], ρ => some ρ
  | (b, o) :: r, ρ => (match renGet ρ b with
    | some b' => (match hget h b' with
      | some o' => (match fitO o o' ρ with | some ρ => fitH h r ρ | none => none)
      | none => none)
    | none => none)
def numbered : Nat → List Obj → List (Nat × Obj)
  | _, [] => []
  | n, o :: r => (n, o) :: numbered (n + 1) r
/-- values by other numbers: those told, or shifted -/
def renB (ρ : Ren) (n0 nx : Nat) (b : Nat) : Option Nat := if n0 ≤ b then some (b - n0 + nx) else renGet ρ b
def renList (f : AV → Option AV) : List AV → Option (List AV)
  | [] => some []
  | v :: r => (match f v with | some v => (match renList f r with | some r => some (v :: r) | none => none) | none => none)
def ren0 (ρ : Ren) (n0 nx : Nat) : AV → Option AV
  | .ptr b o => (match renB ρ n0 nx b with | some b => some (.ptr b o) | none => none)
  | .sl b o n c q => (match renB ρ n0 nx b with | some b => some (.sl b o n c q) | none => none)
  | .mp b => (match renB ρ n0 nx b with | some b => some (.mp b) | none => none)
  | .fn x [] [] => some (.fn x [] [])
  | .fn .. => none
  | .yld _ => none
  | .agg _ => none
  | .tup _ => none
  | v => some v
def ren1 (ρ : Ren) (n0 nx : Nat) : AV → Option AV
  | .agg l => (match renList (ren0 ρ n0 nx) l with | some l => some (.agg l) | none => none)
  | .fn x a b => (match renList (ren0 ρ n0 nx) a, renList (ren0 ρ n0 nx) b with | some a, some b => some (.fn x a b) | _, _ => none)
  | v => ren0 ρ n0 nx v
def ren2 (ρ : Ren) (n0 nx : Nat) : AV → Option AV
  | .tup l => (match renList (ren1 ρ n0 nx) l with | some l => some (.tup l) | none => none)
  | v => ren1 ρ n0 nx v
def renE (ρ : Ren) (n0 nx : Nat) : List (AV × AV × Nat) → Option (List (AV × AV × Nat))
  | [] => some []
  | (k, v, b) :: r => (match ren1 ρ n0 nx k, ren1 ρ n0 nx v, renE ρ n0 nx r with
    | some k, some v, some r => some ((k, v, b) :: r)
    | _, _, _ => none)
def renO (ρ : Ren) (n0 nx : Nat) : Obj → Option Obj
  | .cells l => (match renList (ren1 ρ n0 nx) l with | some l => some (.cells l) | none => none)
  | .map es c => (match renE ρ n0 nx es with | some es => some (.map es c) | none => none)
  | .loop _ => none
def newUps (ρ : Ren) (n0 nx : Nat) : Nat → List Obj → Option Ups
  | _, [] => some []
  | n, o :: r => (match renO ρ n0 nx o, newUps ρ n0 nx (n + 1) r with
    | some o, some u => some ((n, some o) :: u)
    | _, _ => none)
def tryEnt (e : Ent) (args : List AV) (h : HT) (nx : Nat) : Option (AV × Ups × Nat) :=
  match fitL fit1 e.args args [] with
  | some ρ => (match fitH h e.hin ρ with
    | some ρ => (match ren2 ρ e.n0 nx e.res, newUps ρ e.n0 nx nx e.new with
      | some v, some u => some (v, u, nx + e.new.length)
      | _, _ => none)
    | none => none)
  | none => none
noncomputable def memoK (slow : O) (args : List AV) (h : HT) (nx : Nat) (κ : KC) (l : List Ent) : O :=
  List.rec (motive := fun _ => O) slow (fun e _ ih => Option.rec (motive := fun _ => O) ih (fun q => upsK q.2.1 h (fun h => κ q.1 h q.2.2)) (tryEnt e args h nx)) l

/-- slices.Insert at []int, of one number, not at the end: what it does, whatever the capacity -/
def insertA (h : HT) (nx : Nat) : List AV → R3
  | [.sl b off len cap opn, .int .i64 (.ofNat i), .sl b' off' len' _ _] => (match srcA h 1 len (.sl b off len cap opn), srcA h 1 len' (.sl b' off' len' 0 0) with
    | some s, some v => if i < len ∧ len' = 1 ∧ b ≠ b' ∧ len ≤ most ∧ (opn = 2 ∨ (opn = 0 ∧ cap = len)) ∧ (s ++ v).all (fun x => cellOK x && !u8V x) = true then some (.sl nx 0 (len + 1) (len + 1) 2, [(b, none), (nx, some (.cells (s.take i ++ v ++ s.drop i)))], nx + 1) else none
    | _, _ => none)
  | _ => none
noncomputable def insK (args : List AV) (h : HT) (nx : Nat) (κ : KC) : O := optK (insertA h nx args) (fun q => upsK q.2.1 h (fun h => κ q.1 h q.2.2))
def fnBody (P : Program) (fi : Nat) : Option (Code × List ResultVar) := match P.funcs[fi]? with
  | some fn => (match fn.body with | some c => some (c, fn.results.toList) | none => none)
  | none => none
/-- a reckoner: a frame's mask by the function's number; the number of slices.Insert; the calls made before; how deep -/
noncomputable def evK (masks : Nat → Nat) (ins : Nat) (memo : Nat → List Ent) (d : Nat) : CF × CF :=
  Nat.rec (motive := fun _ => CF × CF) (fun _ _ _ _ _ => .fail, fun _ _ _ _ _ => .fail)
    (fun _ ih =>
      (fun fi args h nx κ => iteK (Nat.beq fi ins) (insK args h nx κ)
        (memoK (optK (fnBody P fi) (enterK masks ih.1 ih.2 fi args h nx κ)) args h nx κ (memo fi)),
       yieldK ih.1 ih.2)) d
/-- what a call is told to come to, it comes to -/
noncomputable def finK (e : Ent) : KC := fun v h _ =>
  iteK (match fit2 e.res v (e.hin.map fun p => (p.1, p.1)) with
    | some ρ => (match fitH h (e.hin ++ numbered e.n0 e.new) ρ with | some _ => true | none => false)
    | none => false) (.nrm .nil .nil .e 0) .fail
noncomputable def entK (masks : Nat → Nat) (ins : Nat) (memo : Nat → List Ent) (d : Nat) (e : Ent) : O :=
  upsK (e.hin.map fun p => (p.1, some p.2)) .e (fun h => (evK masks ins memo d).1 e.fi e.args h e.n0 (finK e))
noncomputable def isOK : O → Bool := O.rec (motive := fun _ => Bool) (fun _ _ _ _ => true) (fun _ _ _ _ _ => false) (fun _ _ _ _ => false) false
end Go.Ev.F
