/- A talk: the walk's parts, their words. -/
import Derived.Test.YtdenjmdngmmodaaTkB
import Derived.Deep.Cut
namespace Go.Proofs.Ytdenjmdngmmodaa
open Go.RowKit
set_option linter.unusedVariables false
set_option linter.unusedSimpArgs false
set_option maxRecDepth 1000000
set_option maxHeartbeats 4000000

def seqDrop : Nat → Code → Code
  | 0, c => c
  | n + 1, .seq _ b => seqDrop n b
  | _, c => c
noncomputable def talkCode (n : Nat) : Code := seqDrop n (Try.f5.body.getD .skip)
def TalkPost (w : World) : Exit → Act → World → Prop := bodyPost Try.prog Try.f5 fun e w' => e = .returned (.bool true) ∧ Below w.heap.size w w'
structure TkIn (mac : ByteArray) (ip dst isn seq : Nat) (text reply : ByteArray) : Prop where
  mac : mac.size = 6
  ip : ip < 4294967296
  dst : dst < 4294967296
  isn : isn < 4294967296
  seq : seq < 4294967296
  text : text.size ≤ 60
  reply : reply.size ≤ 290
end Go.Proofs.Ytdenjmdngmmodaa
