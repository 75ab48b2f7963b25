/- A talk: the plain law. -/
import Derived.Test.YtdenjmdngmmodaaCnN
namespace Go.Proofs.Ytdenjmdngmmodaa
open Go.RowKit
set_option linter.unusedVariables false
set_option linter.unusedSimpArgs false
set_option maxRecDepth 20000
set_option maxHeartbeats 600000

theorem bhd_onw (a n : Nat) (ha : a < 4294967296) (hn : n < 4294967296) : bhd (onw a n) a = n := by unfold bhd onw; omega
theorem bhd_self (a : Nat) (ha : a < 4294967296) : bhd a a = 0 := by unfold bhd; omega
theorem onw_onw (a m n : Nat) : onw (onw a m) n = onw a (m + n) := by unfold onw; omega
theorem onw_zero (a : Nat) (ha : a < 4294967296) : onw a 0 = a := by unfold onw; omega
theorem acked_syn (c : Cn) (ack : Nat) (h1 : bhd ack c.una = 1) (h2 : bhd c.nxt c.una = 1) (hs : c.st = 1) : acked c ack = { c with una := ack, st := 2 } := by
  unfold acked
  rw [if_pos ⟨by omega, by omega⟩, if_pos hs]
theorem acked_same (c : Cn) (ack : Nat) (h : bhd ack c.una = 0) : acked c ack = c := by
  unfold acked
  rw [if_neg (by omega)]
theorem acked_all (c : Cn) (ack : Nat) (h1 : bhd ack c.una = c.out.size + 1) (h2 : bhd c.nxt c.una = c.out.size + 1) (hs : c.st ≠ 1) : acked c ack = { c with una := ack, out := ⟨#[]⟩, st := 4, fin := false } := by
  unfold acked
  rw [if_pos ⟨by omega, by omega⟩, if_neg hs, if_pos (by omega)]
theorem takeC_ack (c : Cn) (g : Sg) (ca : Cn) (hs : c.st ≠ 4) (hf : g.flags = 16) (ha : acked c g.ack = ca) : takeC c g = (if ca.st = 1 ∨ ca.st = 4 ∨ (g.data = ⟨#[]⟩ ∧ Nat.land g.flags 1 = 0) then (ca, [])
    else if g.seq = ca.want ∧ ca.inn.size + g.data.size ≤ 300 then
      ({ ca with inn := ca.inn ++ g.data, want := onw ca.want (g.data.size + Nat.land g.flags 1) }, [⟨80, ca.port, ca.nxt, onw ca.want (g.data.size + Nat.land g.flags 1), 16, 1000, ⟨#[]⟩⟩])
    else (ca, [⟨80, ca.port, ca.nxt, ca.want, 16, 1000, ⟨#[]⟩⟩])) := by
  rw [takeC, if_neg hs, if_neg (by rw [hf]; decide), if_neg (by rw [hf]; decide), if_neg (by rw [hf]; decide), ha]
theorem takeC_gone (c : Cn) (g : Sg) (ca : Cn) (hs : c.st ≠ 4) (hf : g.flags = 16) (ha : acked c g.ack = ca) (h1 : ca.st = 4) : (takeC c g).1 = ca := by
  rw [takeC_ack c g ca hs hf ha, if_pos (.inr (.inl h1))]
theorem takeC_none (c : Cn) (g : Sg) (ca : Cn) (hs : c.st ≠ 4) (hf : g.flags = 16) (ha : acked c g.ack = ca) (h1 : g.data = ⟨#[]⟩) : (takeC c g).1 = ca := by
  rw [takeC_ack c g ca hs hf ha, if_pos (.inr (.inr ⟨h1, by rw [hf]; rfl⟩))]
theorem takeC_in (c : Cn) (g : Sg) (ca : Cn) (hs : c.st ≠ 4) (hf : g.flags = 16) (ha : acked c g.ack = ca) (h1 : ca.st = 2) (h2 : g.data ≠ ⟨#[]⟩) (h3 : g.seq = ca.want) (h4 : ca.inn.size + g.data.size ≤ 300) : (takeC c g).1 = { ca with inn := ca.inn ++ g.data, want := onw ca.want g.data.size } := by
  rw [takeC_ack c g ca hs hf ha, if_neg (by rintro (h | h | h); omega; omega; exact h2 h.1), if_pos ⟨h3, h4⟩, hf, show Nat.land 16 1 = 0 from rfl, Nat.add_zero]
theorem takeC_out (c : Cn) (g : Sg) (ca : Cn) (hs : c.st ≠ 4) (hf : g.flags = 16) (ha : acked c g.ack = ca) (h1 : ca.st = 2) (h3 : g.seq ≠ ca.want) : (takeC c g).1 = ca := by
  rw [takeC_ack c g ca hs hf ha]
  split
  · rfl
  · rw [if_neg (fun h => h3 h.1)]

def tkH (text : ByteArray) : Nat := text.size / 2
def tkP0 (text : ByteArray) : ByteArray := text.extract 0 (tkH text)
def tkP1 (text : ByteArray) : ByteArray := text.extract (tkH text) text.size
def tk0 (mac : ByteArray) (ip dst isn seq : Nat) : Cn := ⟨mac, ip, 1000, dst, 1, isn, onw isn 1, onw seq 1, ⟨#[]⟩, ⟨#[]⟩, false⟩
def tk1 (mac : ByteArray) (ip dst isn seq : Nat) (text : ByteArray) : Cn := ⟨mac, ip, 1000, dst, 2, onw isn 1, onw isn 1, onw (onw seq 1) (tkH text), tkP0 text, ⟨#[]⟩, false⟩
def tk3 (mac : ByteArray) (ip dst isn seq : Nat) (text : ByteArray) : Cn := ⟨mac, ip, 1000, dst, 2, onw isn 1, onw isn 1, onw (onw (onw seq 1) (tkH text)) (text.size - tkH text), text, ⟨#[]⟩, false⟩
def tkS (isn sq : Nat) (d : ByteArray) : Sg := ⟨1000, 80, sq, onw isn 1, 16, 0, d⟩
theorem tkP0_size (text : ByteArray) : (tkP0 text).size = tkH text := by unfold tkP0 tkH; rw [ByteArray.size_extract]; omega
theorem tkP1_size (text : ByteArray) : (tkP1 text).size = text.size - tkH text := by unfold tkP1 tkH; rw [ByteArray.size_extract]; omega
theorem tkP_app (text : ByteArray) : tkP0 text ++ tkP1 text = text := by
  unfold tkP0 tkP1
  rw [ByteArray.extract_append_extract]
  rw [show min 0 (tkH text) = 0 by omega, show max (tkH text) text.size = text.size by unfold tkH; omega, ByteArray.extract_zero_size]
theorem empty_app (a : ByteArray) : (⟨#[]⟩ : ByteArray) ++ a = a := by
  apply ByteArray.ext
  rw [ByteArray.data_append]
  simp
theorem app_empty (a : ByteArray) : a ++ (⟨#[]⟩ : ByteArray) = a := by
  apply ByteArray.ext
  rw [ByteArray.data_append]
  simp
theorem talk0 (mac : ByteArray) (ip dst isn seq : Nat) (text : ByteArray) (hi : isn < 4294967296) (hx : text.size ≤ 60) : (takeC (tk0 mac ip dst isn seq) (tkS isn (onw seq 1) (tkP0 text))).1 = tk1 mac ip dst isn seq text := by
  have h1 := bhd_onw isn 1 hi (by omega)
  have ha := acked_syn (tk0 mac ip dst isn seq) (onw isn 1) h1 h1 rfl
  by_cases h0 : tkP0 text = ⟨#[]⟩
  · rw [takeC_none (tk0 mac ip dst isn seq) (tkS isn (onw seq 1) (tkP0 text)) _ (by show 1 ≠ 4; omega) rfl ha h0]
    have e : tkH text = 0 := by rw [← tkP0_size, h0]; rfl
    unfold tk1 tk0
    rw [e, onw_zero _ (onw_lt _ _), h0]
  · rw [takeC_in (tk0 mac ip dst isn seq) (tkS isn (onw seq 1) (tkP0 text)) _ (by show 1 ≠ 4; omega) rfl ha rfl h0 rfl (by show 0 + (tkP0 text).size ≤ 300; rw [tkP0_size]; unfold tkH; omega)]
    unfold tk1 tk0 tkS
    dsimp only
    rw [empty_app, tkP0_size]
theorem talk1 (mac : ByteArray) (ip dst isn seq : Nat) (text : ByteArray) (hi : isn < 4294967296) (hx : text.size ≤ 60) : (takeC (tk1 mac ip dst isn seq text) (tkS isn (onw seq 1) (tkP0 text))).1 = tk1 mac ip dst isn seq text := by
  have ha := acked_same (tk1 mac ip dst isn seq text) (onw isn 1) (bhd_self _ (onw_lt _ _))
  by_cases h0 : tkP0 text = ⟨#[]⟩
  · exact takeC_none (tk1 mac ip dst isn seq text) (tkS isn (onw seq 1) (tkP0 text)) _ (by show 2 ≠ 4; omega) rfl ha h0
  · refine takeC_out (tk1 mac ip dst isn seq text) (tkS isn (onw seq 1) (tkP0 text)) _ (by show 2 ≠ 4; omega) rfl ha rfl ?_
    have hp : tkH text ≠ 0 := fun e => h0 (str_eq0 (by rw [tkP0_size]; exact e))
    have hq : tkH text ≤ 60 := by unfold tkH; omega
    show onw seq 1 ≠ onw (onw seq 1) (tkH text)
    generalize tkH text = z at *
    unfold onw
    omega
theorem talk2 (mac : ByteArray) (ip dst isn seq : Nat) (text : ByteArray) (hi : isn < 4294967296) (hx : text.size ≤ 60) : (takeC (tk1 mac ip dst isn seq text) (tkS isn (onw (onw seq 1) (tkH text)) (tkP1 text))).1 = tk3 mac ip dst isn seq text := by
  have ha := acked_same (tk1 mac ip dst isn seq text) (onw isn 1) (bhd_self _ (onw_lt _ _))
  have happ := tkP_app text
  have hs1 := tkP1_size text
  by_cases h0 : tkP1 text = ⟨#[]⟩
  · rw [takeC_none (tk1 mac ip dst isn seq text) (tkS isn (onw (onw seq 1) (tkH text)) (tkP1 text)) _ (by show 2 ≠ 4; omega) rfl ha h0]
    have e : text.size - tkH text = 0 := by rw [← hs1, h0]; rfl
    rw [h0, app_empty] at happ
    unfold tk1 tk3
    rw [e, onw_zero _ (onw_lt _ _), happ]
  · rw [takeC_in (tk1 mac ip dst isn seq text) (tkS isn (onw (onw seq 1) (tkH text)) (tkP1 text)) _ (by show 2 ≠ 4; omega) rfl ha rfl h0 rfl (by show (tkP0 text).size + (tkP1 text).size ≤ 300; rw [tkP0_size, tkP1_size]; unfold tkH; omega)]
    unfold tk1 tk3 tkS
    dsimp only
    rw [happ, hs1]
theorem talk_end (mac : ByteArray) (ip dst isn seq : Nat) (text : ByteArray) (hi : isn < 4294967296) (hx : text.size ≤ 60) (reply : ByteArray) (hr : reply.size ≤ 290) (wn : Nat) : (takeC (sayC (tk3 mac ip dst isn seq text) reply) ⟨1000, 80, wn, onw (onw isn 1) (reply.size + 1), 16, 0, ⟨#[]⟩⟩).1.st = 4 := by
  have h1 := bhd_onw (onw isn 1) (reply.size + 1) (onw_lt _ _) (by omega)
  have ha := acked_all (sayC (tk3 mac ip dst isn seq text) reply) (onw (onw isn 1) (reply.size + 1)) h1 h1 (by show 3 ≠ 1; omega)
  rw [takeC_gone (sayC (tk3 mac ip dst isn seq text) reply) ⟨1000, 80, wn, onw (onw isn 1) (reply.size + 1), 16, 0, ⟨#[]⟩⟩ _ (by show 3 ≠ 4; omega) rfl ha rfl]
end Go.Proofs.Ytdenjmdngmmodaa
