/- What values hold, world aside: kinds of elements of slices, data (Da), and cells read back. | Trees of tests. No condition: definitions, and what is read of them. -/
import Derived.Test.YthlebalbiokjpaaGreatKh00
import Derived.CheckFast
namespace Go.Proofs.YthlebalbiokjpaaGreat
set_option linter.unusedVariables false

inductive Kd where
  | byte
  | int
  | str
  | u32
  | bytes
  | net
  | timer
  | word
  | rule
  | place
  | role
  | user
  | session
  | fail
  | record
  | flow
  | conn
  | seg
  | range
  | config
  | guests
  | gateway
  | pair
  | out
  | act
  deriving DecidableEq
structure XNet where
  ip : Int
  bits : Int
instance : Inhabited XNet := ⟨⟨0, 0⟩⟩
structure XTimer where
  at_ : Int
  id : Int
instance : Inhabited XTimer := ⟨⟨0, 0⟩⟩
structure XWord where
  high : Int
  low : Int
instance : Inhabited XWord := ⟨⟨0, 0⟩⟩
structure XRule where
  proto : Int
  ip : Int
  bits : Int
  low : Int
  high : Int
  allow : Bool
instance : Inhabited XRule := ⟨⟨0, 0, 0, 0, 0, false⟩⟩
structure XPlace where
  ip : Int
  bits : Int
  low : Int
  high : Int
instance : Inhabited XPlace := ⟨⟨0, 0, 0, 0⟩⟩
structure XRole where
  name : ByteArray
  rules : List XRule
  quota : Int
  minutes : Int
  idle : Int
instance : Inhabited XRole := ⟨⟨⟨#[]⟩, [], 0, 0, 0⟩⟩
structure XUser where
  name : ByteArray
  salt : ByteArray
  hash : ByteArray
  role : ByteArray
  balance : Int
  logins : Int
instance : Inhabited XUser := ⟨⟨⟨#[]⟩, ⟨#[]⟩, ⟨#[]⟩, ⟨#[]⟩, 0, 0⟩⟩
structure XSession where
  id : Int
  user : Int
  mac : ByteArray
  ip : Int
  begun : Int
  last : Int
  used : Int
  quota : Int
  until_ : Int
  idle : Int
instance : Inhabited XSession := ⟨⟨0, 0, ⟨#[]⟩, 0, 0, 0, 0, 0, 0, 0⟩⟩
structure XFail where
  mac : ByteArray
  count : Int
  until_ : Int
instance : Inhabited XFail := ⟨⟨⟨#[]⟩, 0, 0⟩⟩
structure XRecord where
  id : Int
  at_ : Int
  cause : Int
  bytes : Int
  stop : Bool
instance : Inhabited XRecord := ⟨⟨0, 0, 0, 0, false⟩⟩
structure XFlow where
  proto : Int
  mac : ByteArray
  srcIp : Int
  srcPort : Int
  dstIp : Int
  dstPort : Int
  state : Int
  until_ : Int
  owner : Int
instance : Inhabited XFlow := ⟨⟨0, ⟨#[]⟩, 0, 0, 0, 0, 0, 0, 0⟩⟩
structure XConn where
  mac : ByteArray
  ip : Int
  port : Int
  dstIp : Int
  state : Int
  una : Int
  next : Int
  want : Int
  in_ : ByteArray
  out : ByteArray
  fin : Bool
instance : Inhabited XConn := ⟨⟨⟨#[]⟩, 0, 0, 0, 0, 0, 0, 0, ⟨#[]⟩, ⟨#[]⟩, false⟩⟩
structure XSeg where
  srcPort : Int
  dstPort : Int
  seq : Int
  ack : Int
  flags : Int
  window : Int
  data : ByteArray
instance : Inhabited XSeg := ⟨⟨0, 0, 0, 0, 0, 0, ⟨#[]⟩⟩⟩
structure XRange where
  low : Int
  high : Int
instance : Inhabited XRange := ⟨⟨0, 0⟩⟩
structure XConfig where
  lanIp : Int
  lanBits : Int
  gate : Int
  gateMac : ByteArray
  wanMac : ByteArray
  resolver : Int
  garden : List XPlace
  roles : List XRole
instance : Inhabited XConfig := ⟨⟨0, 0, 0, ⟨#[]⟩, ⟨#[]⟩, 0, [], []⟩⟩
structure XGuests where
  users : List XUser
  sessions : List XSession
  fails : List XFail
  records : List XRecord
  next : Int
instance : Inhabited XGuests := ⟨⟨[], [], [], [], 0⟩⟩
structure XGateway where
  lanIp : Int
  lanBits : Int
  gate : Int
  gateMac : ByteArray
  wanMac : ByteArray
  resolver : Int
  garden : List XPlace
  roles : List XRole
  users : List XUser
  sessions : List XSession
  fails : List XFail
  records : List XRecord
  next : Int
  flows : List XFlow
  conns : List XConn
  now : Int
  drops : Int
  isn : Int
instance : Inhabited XGateway := ⟨⟨0, 0, 0, ⟨#[]⟩, ⟨#[]⟩, 0, [], [], [], [], [], [], 0, [], [], 0, 0, 0⟩⟩
structure XPair where
  key : ByteArray
  value : ByteArray
instance : Inhabited XPair := ⟨⟨⟨#[]⟩, ⟨#[]⟩⟩⟩
structure XOut where
  side : Int
  bytes : ByteArray
instance : Inhabited XOut := ⟨⟨0, ⟨#[]⟩⟩⟩
structure XAct where
  kind : Int
  n : Int
  bytes : ByteArray
instance : Inhabited XAct := ⟨⟨0, 0, ⟨#[]⟩⟩⟩
@[reducible] def El : Kd → Type
  | .byte => UInt8
  | .int => Int
  | .str => ByteArray
  | .u32 => Int
  | .bytes => List UInt8
  | .net => XNet
  | .timer => XTimer
  | .word => XWord
  | .rule => XRule
  | .place => XPlace
  | .role => XRole
  | .user => XUser
  | .session => XSession
  | .fail => XFail
  | .record => XRecord
  | .flow => XFlow
  | .conn => XConn
  | .seg => XSeg
  | .range => XRange
  | .config => XConfig
  | .guests => XGuests
  | .gateway => XGateway
  | .pair => XPair
  | .out => XOut
  | .act => XAct
def elDef : (k : Kd) → El k
  | .byte => 0
  | .int => (0 : Int)
  | .str => (⟨#[]⟩ : ByteArray)
  | .u32 => (0 : Int)
  | .bytes => ([] : List UInt8)
  | .net => (default : XNet)
  | .timer => (default : XTimer)
  | .word => (default : XWord)
  | .rule => (default : XRule)
  | .place => (default : XPlace)
  | .role => (default : XRole)
  | .user => (default : XUser)
  | .session => (default : XSession)
  | .fail => (default : XFail)
  | .record => (default : XRecord)
  | .flow => (default : XFlow)
  | .conn => (default : XConn)
  | .seg => (default : XSeg)
  | .range => (default : XRange)
  | .config => (default : XConfig)
  | .guests => (default : XGuests)
  | .gateway => (default : XGateway)
  | .pair => (default : XPair)
  | .out => (default : XOut)
  | .act => (default : XAct)
instance {k : Kd} : Inhabited (El k) := ⟨elDef k⟩
/-- What a value is: itself; a byte; a truth, or what it is not; a struct; several results; a slice that is only read; an address of cells that are only read; such an address or nil; an address of a variable of our own; a slice of our own, from lo on, n long; an address of a cell of an element of one; a slice without room; a function; no matter what. -/
inductive Da where
  | v (x : Value)
  | u8 (x : UInt8)
  | b (c : Bool)
  | nb (c : Bool)
  | agg (ds : List Da)
  | tup (ds : List Da)
  | lst (k : Kd) (l : List (El k))
  | ref (ds : List Da)
  | opt (c : Bool) (ds : List Da)
  | box (b off : Nat)
  | sl (k : Kd) (b lo n : Nat)
  | elt (k : Kd) (b i off : Nat)
  | emp
  | clo (fn : Fn) (first caps : List Da)
  | any
instance : Inhabited Da := ⟨.any⟩
@[match_pattern] abbrev Da.I (n : Int) : Da := .v (.int .i64 n)
@[match_pattern] abbrev Da.S (t : ByteArray) : Da := .v (.string t)
/-- An element's cells. -/
def row : (k : Kd) → El k → List Da
  | .byte, (x : UInt8) => [.u8 x]
  | .int, (x : Int) => [.I x]
  | .str, (x : ByteArray) => [.S x]
  | .u32, (x : Int) => [.v (.int .u32 x)]
  | .bytes, (x : List UInt8) => [.lst .byte (x : List UInt8)]
  | .net, (x : XNet) => [.I x.ip, .I x.bits]
  | .timer, (x : XTimer) => [.I x.at_, .I x.id]
  | .word, (x : XWord) => [.I x.high, .I x.low]
  | .rule, (x : XRule) => [.I x.proto, .I x.ip, .I x.bits, .I x.low, .I x.high, .b x.allow]
  | .place, (x : XPlace) => [.I x.ip, .I x.bits, .I x.low, .I x.high]
  | .role, (x : XRole) => [.S x.name, .lst .rule x.rules, .I x.quota, .I x.minutes, .I x.idle]
  | .user, (x : XUser) => [.S x.name, .S x.salt, .S x.hash, .S x.role, .I x.balance, .I x.logins]
  | .session, (x : XSession) => [.I x.id, .I x.user, .S x.mac, .I x.ip, .I x.begun, .I x.last, .I x.used, .I x.quota, .I x.until_, .I x.idle]
  | .fail, (x : XFail) => [.S x.mac, .I x.count, .I x.until_]
  | .record, (x : XRecord) => [.I x.id, .I x.at_, .I x.cause, .I x.bytes, .b x.stop]
  | .flow, (x : XFlow) => [.I x.proto, .S x.mac, .I x.srcIp, .I x.srcPort, .I x.dstIp, .I x.dstPort, .I x.state, .I x.until_, .I x.owner]
  | .conn, (x : XConn) => [.S x.mac, .I x.ip, .I x.port, .I x.dstIp, .I x.state, .I x.una, .I x.next, .I x.want, .S x.in_, .S x.out, .b x.fin]
  | .seg, (x : XSeg) => [.I x.srcPort, .I x.dstPort, .I x.seq, .I x.ack, .I x.flags, .I x.window, .S x.data]
  | .range, (x : XRange) => [.I x.low, .I x.high]
  | .config, (x : XConfig) => [.I x.lanIp, .I x.lanBits, .I x.gate, .S x.gateMac, .S x.wanMac, .I x.resolver, .lst .place x.garden, .lst .role x.roles]
  | .guests, (x : XGuests) => [.lst .user x.users, .lst .session x.sessions, .lst .fail x.fails, .lst .record x.records, .I x.next]
  | .gateway, (x : XGateway) => [.I x.lanIp, .I x.lanBits, .I x.gate, .S x.gateMac, .S x.wanMac, .I x.resolver, .lst .place x.garden, .lst .role x.roles, .lst .user x.users, .lst .session x.sessions, .lst .fail x.fails, .lst .record x.records, .I x.next, .lst .flow x.flows, .lst .conn x.conns, .I x.now, .I x.drops, .I x.isn]
  | .pair, (x : XPair) => [.S x.key, .S x.value]
  | .out, (x : XOut) => [.I x.side, .S x.bytes]
  | .act, (x : XAct) => [.I x.kind, .I x.n, .S x.bytes]
def wid : Kd → Nat
  | .byte => 1
  | .int => 1
  | .str => 1
  | .u32 => 1
  | .bytes => 1
  | .net => 2
  | .timer => 2
  | .word => 2
  | .rule => 6
  | .place => 4
  | .role => 5
  | .user => 6
  | .session => 10
  | .fail => 3
  | .record => 5
  | .flow => 9
  | .conn => 11
  | .seg => 7
  | .range => 2
  | .config => 8
  | .guests => 5
  | .gateway => 18
  | .pair => 2
  | .out => 2
  | .act => 3
theorem row_wid : ∀ (k : Kd) (x : El k), (row k x).length = wid k := by
  intro k x; cases k <;> rfl
theorem wid_pos (k : Kd) : 0 < wid k := by cases k <;> decide
def Da.asB : Da → Option Bool
  | .v (.bool c) => some c
  | .b c => some c
  | .nb c => some !c
  | _ => none
def dI : Da → Option Int
  | .v (.int .i64 n) => some n
  | _ => none
def dU32 : Da → Option Int
  | .v (.int .u32 n) => some n
  | _ => none
def dU8 : Da → Option Int
  | .v (.int .u8 n) => some n
  | .u8 x => some x.toNat
  | _ => none
def dBy : Da → Option UInt8
  | .u8 x => some x
  | _ => none
def dS : Da → Option ByteArray
  | .v (.string t) => some t
  | _ => none
def dL (k : Kd) : Da → Option (List (El k))
  | .lst k' l => if h : k' = k then some (h ▸ l) else none
  | .emp => some []
  | .v (.slice none 0 0) => some []
  | _ => none
/-- Cells, read back. -/
def un : (k : Kd) → List Da → Option (El k)
  | .byte, [d0] => dBy d0
  | .int, [d0] => dI d0
  | .str, [d0] => dS d0
  | .u32, [d0] => dU32 d0
  | .bytes, [d0] => dL .byte d0
  | .net, [d0, d1] => (dI d0).bind fun a0 => (dI d1).bind fun a1 => some (⟨a0, a1⟩ : XNet)
  | .timer, [d0, d1] => (dI d0).bind fun a0 => (dI d1).bind fun a1 => some (⟨a0, a1⟩ : XTimer)
  | .word, [d0, d1] => (dI d0).bind fun a0 => (dI d1).bind fun a1 => some (⟨a0, a1⟩ : XWord)
  | .rule, [d0, d1, d2, d3, d4, d5] => (dI d0).bind fun a0 => (dI d1).bind fun a1 => (dI d2).bind fun a2 => (dI d3).bind fun a3 => (dI d4).bind fun a4 => (Da.asB d5).bind fun a5 => some (⟨a0, a1, a2, a3, a4, a5⟩ : XRule)
  | .place, [d0, d1, d2, d3] => (dI d0).bind fun a0 => (dI d1).bind fun a1 => (dI d2).bind fun a2 => (dI d3).bind fun a3 => some (⟨a0, a1, a2, a3⟩ : XPlace)
  | .role, [d0, d1, d2, d3, d4] => (dS d0).bind fun a0 => (dL .rule d1).bind fun a1 => (dI d2).bind fun a2 => (dI d3).bind fun a3 => (dI d4).bind fun a4 => some (⟨a0, a1, a2, a3, a4⟩ : XRole)
  | .user, [d0, d1, d2, d3, d4, d5] => (dS d0).bind fun a0 => (dS d1).bind fun a1 => (dS d2).bind fun a2 => (dS d3).bind fun a3 => (dI d4).bind fun a4 => (dI d5).bind fun a5 => some (⟨a0, a1, a2, a3, a4, a5⟩ : XUser)
  | .session, [d0, d1, d2, d3, d4, d5, d6, d7, d8, d9] => (dI d0).bind fun a0 => (dI d1).bind fun a1 => (dS d2).bind fun a2 => (dI d3).bind fun a3 => (dI d4).bind fun a4 => (dI d5).bind fun a5 => (dI d6).bind fun a6 => (dI d7).bind fun a7 => (dI d8).bind fun a8 => (dI d9).bind fun a9 => some (⟨a0, a1, a2, a3, a4, a5, a6, a7, a8, a9⟩ : XSession)
  | .fail, [d0, d1, d2] => (dS d0).bind fun a0 => (dI d1).bind fun a1 => (dI d2).bind fun a2 => some (⟨a0, a1, a2⟩ : XFail)
  | .record, [d0, d1, d2, d3, d4] => (dI d0).bind fun a0 => (dI d1).bind fun a1 => (dI d2).bind fun a2 => (dI d3).bind fun a3 => (Da.asB d4).bind fun a4 => some (⟨a0, a1, a2, a3, a4⟩ : XRecord)
  | .flow, [d0, d1, d2, d3, d4, d5, d6, d7, d8] => (dI d0).bind fun a0 => (dS d1).bind fun a1 => (dI d2).bind fun a2 => (dI d3).bind fun a3 => (dI d4).bind fun a4 => (dI d5).bind fun a5 => (dI d6).bind fun a6 => (dI d7).bind fun a7 => (dI d8).bind fun a8 => some (⟨a0, a1, a2, a3, a4, a5, a6, a7, a8⟩ : XFlow)
  | .conn, [d0, d1, d2, d3, d4, d5, d6, d7, d8, d9, d10] => (dS d0).bind fun a0 => (dI d1).bind fun a1 => (dI d2).bind fun a2 => (dI d3).bind fun a3 => (dI d4).bind fun a4 => (dI d5).bind fun a5 => (dI d6).bind fun a6 => (dI d7).bind fun a7 => (dS d8).bind fun a8 => (dS d9).bind fun a9 => (Da.asB d10).bind fun a10 => some (⟨a0, a1, a2, a3, a4, a5, a6, a7, a8, a9, a10⟩ : XConn)
  | .seg, [d0, d1, d2, d3, d4, d5, d6] => (dI d0).bind fun a0 => (dI d1).bind fun a1 => (dI d2).bind fun a2 => (dI d3).bind fun a3 => (dI d4).bind fun a4 => (dI d5).bind fun a5 => (dS d6).bind fun a6 => some (⟨a0, a1, a2, a3, a4, a5, a6⟩ : XSeg)
  | .range, [d0, d1] => (dI d0).bind fun a0 => (dI d1).bind fun a1 => some (⟨a0, a1⟩ : XRange)
  | .config, [d0, d1, d2, d3, d4, d5, d6, d7] => (dI d0).bind fun a0 => (dI d1).bind fun a1 => (dI d2).bind fun a2 => (dS d3).bind fun a3 => (dS d4).bind fun a4 => (dI d5).bind fun a5 => (dL .place d6).bind fun a6 => (dL .role d7).bind fun a7 => some (⟨a0, a1, a2, a3, a4, a5, a6, a7⟩ : XConfig)
  | .guests, [d0, d1, d2, d3, d4] => (dL .user d0).bind fun a0 => (dL .session d1).bind fun a1 => (dL .fail d2).bind fun a2 => (dL .record d3).bind fun a3 => (dI d4).bind fun a4 => some (⟨a0, a1, a2, a3, a4⟩ : XGuests)
  | .gateway, [d0, d1, d2, d3, d4, d5, d6, d7, d8, d9, d10, d11, d12, d13, d14, d15, d16, d17] => (dI d0).bind fun a0 => (dI d1).bind fun a1 => (dI d2).bind fun a2 => (dS d3).bind fun a3 => (dS d4).bind fun a4 => (dI d5).bind fun a5 => (dL .place d6).bind fun a6 => (dL .role d7).bind fun a7 => (dL .user d8).bind fun a8 => (dL .session d9).bind fun a9 => (dL .fail d10).bind fun a10 => (dL .record d11).bind fun a11 => (dI d12).bind fun a12 => (dL .flow d13).bind fun a13 => (dL .conn d14).bind fun a14 => (dI d15).bind fun a15 => (dI d16).bind fun a16 => (dI d17).bind fun a17 => some (⟨a0, a1, a2, a3, a4, a5, a6, a7, a8, a9, a10, a11, a12, a13, a14, a15, a16, a17⟩ : XGateway)
  | .pair, [d0, d1] => (dS d0).bind fun a0 => (dS d1).bind fun a1 => some (⟨a0, a1⟩ : XPair)
  | .out, [d0, d1] => (dI d0).bind fun a0 => (dS d1).bind fun a1 => some (⟨a0, a1⟩ : XOut)
  | .act, [d0, d1, d2] => (dI d0).bind fun a0 => (dI d1).bind fun a1 => (dS d2).bind fun a2 => some (⟨a0, a1, a2⟩ : XAct)
  | _, _ => none
end Go.Proofs.YthlebalbiokjpaaGreat
namespace Go.Proofs.YthlebalbiokjpaaGreat
set_option linter.unusedVariables false
set_option linter.unusedSimpArgs false

/-- A tree of tests; what must hold for it stands at its nodes. -/
inductive Tree (α : Type) where
  | leaf (a : α)
  | node (c : Bool) (t f : Tree α)
  | obl (p : Prop) (t : Tree α)
  | bad
namespace Tree
variable {α β : Type}
def bind : Tree α → (α → Tree β) → Tree β
  | leaf a, k => k a
  | node c t f, k => node c (t.bind k) (f.bind k)
  | obl p t, k => obl p (t.bind k)
  | bad, _ => bad
/-- The leaf that the tests lead to. -/
def get [Inhabited α] : Tree α → α
  | leaf a => a
  | node c t f => bif c then t.get else f.get
  | obl _ t => t.get
  | bad => default
/-- .. or what is read of it. -/
def getBy (π : α → β) (z : β) : Tree α → β
  | leaf a => π a
  | node c t f => bif c then t.getBy π z else f.getBy π z
  | obl _ t => t.getBy π z
  | bad => z
def safe : Tree α → Prop
  | leaf _ => True
  | node c t f => (c = true → t.safe) ∧ (c = false → f.safe)
  | obl p t => p ∧ t.safe
  | bad => False
/-- .. where nothing has to be shown. -/
def chk : Tree α → Bool
  | leaf _ => true
  | node c t f => (t.chk || !c) && (f.chk || c)
  | obl _ _ => false
  | bad => false
/-- .. where only what stands at nodes has to be shown. -/
def chkO : Tree α → Bool
  | leaf _ => true
  | node c t f => (t.chkO || !c) && (f.chkO || c)
  | obl _ t => t.chkO
  | bad => false
def obls : Tree α → Prop
  | leaf _ => True
  | node _ t f => t.obls ∧ f.obls
  | obl p t => p ∧ t.obls
  | bad => True
def clean : Tree α → Bool
  | leaf _ => true
  | node _ t f => t.clean && f.clean
  | obl _ t => t.clean
  | bad => false
/-- Do the tests lead to what cannot go on? -/
def bads : Tree α → Bool
  | leaf _ => false
  | node c t f => bif t.clean then (bif f.clean then false else bif c then false else f.bads) else bif f.clean then (bif c then t.bads else false) else bif c then t.bads else f.bads
  | obl _ t => t.bads
  | bad => true
def all (q : α → Bool) : Tree α → Bool
  | leaf a => q a
  | node _ t f => t.all q && f.all q
  | obl _ t => t.all q
  | bad => true
theorem safe_of_chk : ∀ {t : Tree α}, t.chk = true → t.safe
  | leaf _, _ => trivial
  | node c t f, h => by
    simp only [chk, Bool.and_eq_true, Bool.or_eq_true] at h
    refine ⟨fun e => ?_, fun e => ?_⟩
    · subst e; exact safe_of_chk (by simpa using h.1)
    · subst e; exact safe_of_chk (by simpa using h.2)
  | obl _ _, h => by cases h
  | bad, h => by cases h
theorem safe_of_obls : ∀ {t : Tree α}, t.chkO = true → t.obls → t.safe
  | leaf _, _, _ => trivial
  | node c t f, h, ho => by
    simp only [chkO, Bool.and_eq_true, Bool.or_eq_true] at h
    refine ⟨fun e => ?_, fun e => ?_⟩
    · subst e; exact safe_of_obls (by simpa using h.1) ho.1
    · subst e; exact safe_of_obls (by simpa using h.2) ho.2
  | obl _ _, h, ho => ⟨ho.1, safe_of_obls h ho.2⟩
  | bad, h, _ => by cases h
theorem clean_bads : ∀ {t : Tree α}, t.clean = true → t.bads = false
  | leaf _, _ => rfl
  | node c t f, h => by
    simp only [clean, Bool.and_eq_true] at h
    simp [bads, h.1, h.2]
  | obl _ t, h => clean_bads (t := t) h
  | bad, h => by cases h
theorem safe_of_bads : ∀ {t : Tree α}, t.bads = false → t.obls → t.safe
  | leaf _, _, _ => trivial
  | node c t f, h, ho => by
    have h1 := fun e => clean_bads (t := t) e
    have h2 := fun e => clean_bads (t := f) e
    unfold bads at h
    refine ⟨fun e => safe_of_bads (t := t) ?_ ho.1, fun e => safe_of_bads (t := f) ?_ ho.2⟩
    all_goals subst e; cases ht : t.clean <;> cases hf : f.clean <;> simp_all
  | obl _ _, h, ho => ⟨ho.1, safe_of_bads h ho.2⟩
  | bad, h, _ => by cases h
def noObl : Tree α → Bool
  | leaf _ => true
  | node _ t f => t.noObl && f.noObl
  | obl _ _ => false
  | bad => true
theorem obls_of_no : ∀ {t : Tree α}, t.noObl = true → t.obls
  | leaf _, _ => trivial
  | node _ t f, h => by
    simp only [noObl, Bool.and_eq_true] at h
    exact ⟨obls_of_no h.1, obls_of_no h.2⟩
  | obl _ _, h => by cases h
  | bad, _ => trivial
/-- All that has to be shown. -/
def oblL : Tree α → List Prop
  | leaf _ => []
  | node _ t f => t.oblL ++ f.oblL
  | obl p t => p :: t.oblL
  | bad => []
theorem obls_of_list : ∀ {t : Tree α}, (∀ p ∈ t.oblL, p) → t.obls
  | leaf _, _ => trivial
  | node _ t f, h => ⟨obls_of_list fun p hp => h p (List.mem_append_left _ hp), obls_of_list fun p hp => h p (List.mem_append_right _ hp)⟩
  | obl p t, h => ⟨h p List.mem_cons_self, obls_of_list fun q hq => h q (List.mem_cons_of_mem _ hq)⟩
  | bad, _ => trivial
theorem safe_bind [Inhabited α] {k : α → Tree β} : ∀ {t : Tree α}, (t.bind k).safe → t.safe ∧ (k t.get).safe
  | leaf _, h => ⟨trivial, h⟩
  | node c t f, h => by
    cases c with
    | true => have := safe_bind (h.1 rfl); exact ⟨⟨fun _ => this.1, fun e => (by cases e)⟩, this.2⟩
    | false => have := safe_bind (h.2 rfl); exact ⟨⟨fun e => (by cases e), fun _ => this.1⟩, this.2⟩
  | obl p t, h => by have := safe_bind h.2; exact ⟨⟨h.1, this.1⟩, this.2⟩
  | bad, h => h.elim
theorem get_bind [Inhabited α] [Inhabited β] {k : α → Tree β} : ∀ {t : Tree α}, (t.bind k).safe → (t.bind k).get = (k t.get).get
  | leaf _, _ => rfl
  | node c t f, h => by
    cases c with
    | true => exact get_bind (t := t) (h.1 rfl)
    | false => exact get_bind (t := f) (h.2 rfl)
  | obl p t, h => get_bind (t := t) h.2
  | bad, h => h.elim
theorem all_get [Inhabited α] {q : α → Bool} : ∀ {t : Tree α}, t.safe → t.all q = true → q t.get = true
  | leaf _, _, h => h
  | node c t f, hs, h => by
    simp only [all, Bool.and_eq_true] at h
    cases c with
    | true => exact all_get (t := t) (hs.1 rfl) h.1
    | false => exact all_get (t := f) (hs.2 rfl) h.2
  | obl _ t, hs, h => all_get (t := t) hs.2 h
  | bad, hs, _ => hs.elim
theorem getBy_eq [Inhabited α] {π : α → β} {z : β} : ∀ {t : Tree α}, t.safe → t.getBy π z = π t.get
  | leaf _, _ => rfl
  | node c t f, hs => by
    cases c with
    | true => exact getBy_eq (t := t) (hs.1 rfl)
    | false => exact getBy_eq (t := f) (hs.2 rfl)
  | obl _ t, hs => getBy_eq (t := t) hs.2
  | bad, hs => hs.elim
end Tree

end Go.Proofs.YthlebalbiokjpaaGreat
