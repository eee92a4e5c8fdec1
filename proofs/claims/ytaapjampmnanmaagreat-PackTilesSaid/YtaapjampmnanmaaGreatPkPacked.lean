/- Layer 14 (pack): packed, of the program and of the reference. The conditions: where the bytes lie; at most 4000 bytes. -/
import Derived.Test.YtaapjampmnanmaaGreatGz
namespace Go.Proofs.YtaapjampmnanmaaGreat
open Go.RowKit
set_option linter.unusedVariables false
set_option linter.unusedSimpArgs false
def pkd (gz : Bool) (bs : List UInt8) : List UInt8 := if gz then Gz.wrap bs else bs
theorem ppacked_any (A : Option Addr) (n c : Nat) (bs : List UInt8) (gz : Bool) (w : World) (hr : Rd w w.heap.size A n (bs.map bv)) (hc : n ≤ c) (hn : n ≤ 1048576) :
    Calls Tryz.prog 42 #[.slice A n c, .bool gz] w fun e w' => ∃ A' c', e = .returned (.slice A' (pkd gz bs).length c') ∧ Ow w' w.heap.size 5 A' (pkd gz bs).length c' ((pkd gz bs).map bv) ∧ Below w.heap.size w w' := by
  have hlen := hr.len
  cases gz with
  | true =>
    have hw := hide (wrap_any A n c bs w hr hc hn)
    rw [show pkd true bs = Gz.wrap bs from rfl]
    generalize Gz.wrap bs = W at hw ⊢
    generalize hwl : W.length = k at hw ⊢
    clear hr hc hn hlen
    go_enter Tryz.func42, Tryz.ntmps42
    go_wp2_with (go_at_call 80; (with_reducible refine hw.out.mono ?_); rintro e w2 ⟨A2, c2, rfl, ho2, hb2⟩; replace ho2 := hide ho2; replace hb2 := hide hb2)
    go_ret
    exact ⟨A2, c2, rfl, ho2.out, hb2.out⟩
  | false =>
    have hw := hide (clone_any A n c bs w _ hr (Nat.le_refl _) (by omega))
    rw [show pkd false bs = bs from rfl, hlen]
    clear hr hc hn hlen
    go_enter Tryz.func42, Tryz.ntmps42
    go_wp2_with (go_at_call 68; (with_reducible refine hw.out.mono ?_); rintro e w2 ⟨A2, c2, rfl, ho2, hb2⟩; replace ho2 := hide ho2; replace hb2 := hide hb2)
    go_ret
    exact ⟨A2, c2, rfl, ho2.out, hb2.out⟩
theorem pkd_len (gz : Bool) (bs : List UInt8) (h : bs.length ≤ 4000) : (pkd gz bs).length ≤ 100000 := by
  cases gz with
  | true =>
    have h1 := Gz.wrap_len bs
    have h2 := Gz.out_len false bs h
    show (Gz.wrap bs).length ≤ _
    omega
  | false => show bs.length ≤ _; omega
theorem pkd_big (gz : Bool) (bs : List UInt8) (h : bs.length ≤ 1048576) : (pkd gz bs).length ≤ 20000000 := by
  cases gz with
  | true =>
    have h1 := Gz.wrap_len bs
    have h2 := Gz.out_big bs h
    show (Gz.wrap bs).length ≤ _
    omega
  | false => show bs.length ≤ _; omega
end Go.Proofs.YtaapjampmnanmaaGreat
