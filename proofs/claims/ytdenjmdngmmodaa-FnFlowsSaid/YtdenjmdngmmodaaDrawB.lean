/- Regions of open order that draw bytes (their words). -/
import Derived.Test.YtdenjmdngmmodaaLexC
import Derived.Test.YtdenjmdngmmodaaDraw
namespace Go.Proofs.Ytdenjmdngmmodaa
open Go.RowKit
set_option linter.unusedVariables false
set_option linter.unusedSimpArgs false
set_option maxRecDepth 20000
set_option maxHeartbeats 600000

/-- Within a draw from source g: each step draws at most 60 bytes. -/
def JG (w0 : World) (g : Nat) (N : Int) (n0 m : Nat) (w : World) : Prop := w0.grownBy w (some g) ∧ Src w g (N + 60 * ((n0 : Int) - m))
def LeGs (g : Nat) (w w' : World) : Prop := w.grownBy w' (some g)
theorem JG.mono {w0 : World} {g n0 : Nat} {N : Int} (m : Nat) (w : World) (h : JG w0 g N n0 (m + 1) w) : JG w0 g N n0 m w := ⟨h.1, h.2.more (by omega)⟩
theorem JG.step {w0 w w' : World} {g n0 m : Nat} {N : Int} (h : JG w0 g N n0 (m + 1) w) (hg : w.grownBy w' (some g)) {M : Int} (hs : Src w' g M) (hM : M ≤ N + 60 * ((n0 : Int) - m)) : JG w0 g N n0 m w' := ⟨grown_trans h.1 hg, hs.more hM⟩
theorem JG.below {w0 w w' : World} {g n0 m : Nat} {N : Int} (h : JG w0 g N n0 (m + 1) w) (hb : LeB w w') : JG w0 g N n0 m w' := h.step (grownBy_of_below hb _) (h.2.below hb h.2.lt) (by omega)
theorem JG.start {w0 : World} {g n0 : Nat} {N : Int} (h : Src w0 g N) : JG w0 g N n0 n0 w0.drew := ⟨grownBy_of_below ((Below.refl _ _).drew) _, (h.below ((Below.refl _ _).drew) h.lt).more (by omega)⟩
def RowG (g n : Nat) (vs : List Value) : Spec := fun _ v w => ∃ b, v = .slice (some ⟨b, 0, none⟩) n n ∧ b ≠ g ∧ Rd w (some ⟨b, 0, none⟩) vs
theorem RowG.st {g n : Nat} {vs : List Value} {x : Array Value} {v : Value} {w w' : World} (hL : LeGs g w w') (h : RowG g n vs x v w) : RowG g n vs x v w' := by
  obtain ⟨b, h1, h2, h3⟩ := h
  exact ⟨b, h1, h2, h3.grown hL fun ad e h => h2 (by cases e; injection h with h; exact h.symm)⟩
theorem grown_setRowB {a w : World} {row : Option Nat} (h : a.grownBy w row) {b : Nat} (hb : a.heap.size ≤ b) (cs : Array Value) : a.grownBy (w.setRow b cs) row :=
  ⟨h.os, h.tape, h.output, by simpa [World.setRow] using h.size, fun k hk hne => (setRow_other w b k cs (by omega)).trans (h.block k hk hne)⟩
theorem src_setRow {w : World} {g : Nat} {N : Int} (h : Src w g N) {b : Nat} (hb : g < b) (cs : Array Value) : Src (w.setRow b cs) g N := h.keep fun k hk => setRow_other w b k cs (by omega)
end Go.Proofs.Ytdenjmdngmmodaa
