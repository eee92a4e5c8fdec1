/- The statement DirGets' walk: the law returns true for every input. The condition: where the slice lies, and its length. -/
import Derived.Test.YtmpdoileiniijaaDirLaw
import Derived.Test.YtmpdoileiniijaaDirSame
import Derived.Test.YtmpdoileiniijaaDirLive
namespace Go.Proofs.Ytmpdoileiniijaa
open Go.RowKit

theorem right_big {l : List Ent} (h : RightE l) : ∀ x ∈ l, x.big := by
  intro x hx
  obtain ⟨j, hj, rfl⟩ := List.mem_iff_getElem.1 hx
  have := h.2.2.1 j hj
  unfold Ent.ok at this
  unfold Ent.big
  omega
/-- An answer of Get: an error and nothing, or right entries. -/
theorem getR_or {bs : List UInt8} {l : List Ent} {f : Nat} (h : GetR bs (l, f)) : (f ≠ 0 ∧ l = []) ∨ (f = 0 ∧ RightE l ∧ 4 * l.length ≤ bs.length ∧ (putB l).length ≤ bs.length) := by
  by_cases hf : f = 0
  · subst hf
    exact .inr ⟨rfl, getR_ok h⟩
  · refine .inl ⟨hf, ?_⟩
    obtain ⟨n, p, e, _, h1, h2, h3, h4, h5⟩ := h
    by_cases he : e = 0
    · by_cases hn : n ≤ 65536
      · by_cases hE : Ef bs n p = 0
        · by_cases hb : pf bs n p < bs.length ∨ ¬ RightE (gents (val bs n p) n)
          · have := h4 he hn hE hb
            injection this
          · have hp : pf bs n p = bs.length := by
              by_cases hu : p ≤ bs.length
              · have := (rd_pf bs n p hu hE).2
                omega
              · subst he
                have := (vr_use (Nat.zero_le _) (by assumption)).2
                omega
            have := h5 he hn hE hp (Classical.byContradiction fun h => hb (.inr h))
            injection this with _ h
            exact absurd h hf
        · have := h3 he hn hE
          injection this
      · have := h2 he (by omega)
        injection this
    · have := h1 he
      injection this

set_option maxRecDepth 100000 in
set_option maxHeartbeats 4000000 in
theorem dirgets_walk (A : Option Addr) (n c : Nat) (bs : List UInt8) (w : World) (hr : Rd w w.heap.size A n (bs.map bv)) (hml : n ≤ maxLen) :
    Calls Try.prog 5 #[.slice A n c] w fun e w' => e = .returned (.bool true) ∧ Below w.heap.size w w' := by
  have hl := hr.len
  subst hl
  have hlive := hide (fun W => dirlive_any W)
  by_cases hbig : 500 < bs.length
  · obtain ⟨n, hl⟩ : ∃ n, bs.length = n := ⟨_, rfl⟩
    rw [hl] at hml hbig ⊢
    have hnI : (n : Int) ≤ 9223372036854775807 := by simp only [maxLen] at hml; omega
    clear hml hr hl
    go_enter Try.func5, Try.ntmps5
    go_wp2_with (go_at_call 15; (with_reducible refine (hlive.out _).mono ?_); rintro e w5 ⟨rfl, hb5⟩)
    go_ret
    exact ⟨rfl, hb5⟩
  · obtain ⟨⟨l, f⟩, hR⟩ := GetR.ex bs
    have hor := getR_or hR
    obtain ⟨m, hm⟩ : ∃ m, l.length = m := ⟨_, rfl⟩
    have hm1 : l.length ≤ 125 := by
      rcases hor with ⟨_, rfl⟩ | ⟨_, _, h, _⟩
      · exact Nat.zero_le _
      · omega
    have hg := hide (dget_any A c bs w hr (by omega) (l, f) hR)
    have hrg := hide (fun W (h : Below w.heap.size w W) => rget_any A c bs W ((hr.below h).mono h.size) (by omega) (l, f) hR)
    have hsm := hide (fun (W : World) (A1 A2 : Option Addr) (c1 c2 B : Nat) (h1 : RdE W B A1 l) (h2 : RdE W B A2 l) => refsame_any A1 A2 c1 c2 l l W B h1 h2 (by omega) (by omega) true ⟨fun _ => rfl, fun _ => rfl⟩)
    have hcd := hide (fun (n : Int) W => dcode_any n W)
    simp only at hg hrg
    rw [hm] at hg hrg hsm
    obtain ⟨n, hl⟩ : ∃ n, bs.length = n := ⟨_, rfl⟩
    rw [hl] at hg hrg ⊢
    have hnI : (n : Int) ≤ 500 := by omega
    rcases hor with ⟨hf, rfl⟩ | ⟨rfl, hRt, _, hpl⟩
    · have hf1 : ((f : Int) == 0) = false := by simp; omega
      have hf2 : (f == 0) = false := by simp; omega
      clear hr hml hl hbig hm hm1 hR hf
      go_enter Try.func5, Try.ntmps5
      go_wp2_with (first
        | (go_at_call 18; (with_reducible refine hg.out.mono ?_); rintro e w1 ⟨A1, c1, rfl, ho1, hb1⟩; have ho1 := hide ho1; have hb1 := hide hb1)
        | (go_at_call 19; (with_reducible refine (hrg.out _ hb1.out).mono ?_); rintro e w2 ⟨A2, c2, rfl, ho2, hb2⟩; have ho12 := hide (ho1.out.below hb2); have hb12 := hide (hb1.out.trans (hb2.mono hb1.out.size)); have ho2 := hide ho2; clear hb2)
        | (go_at_call 20; (with_reducible refine (hsm.out _ _ _ _ _ _ ho12.out.rd ho2.out.rd).mono ?_); rintro e w3 ⟨rfl, hb3⟩; have hb13 := hide (hb12.out.trans (hb3.mono hb12.out.size)); clear hb3)
        | (go_at_call 21; (with_reducible refine (hcd.out _ _).mono ?_); rintro e w4 ⟨rfl, rfl⟩)
        | (go_at_call 15; (with_reducible refine (hlive.out _).mono ?_); rintro e w5 ⟨rfl, hb5⟩))
      go_ret
      exact ⟨rfl, hb13.out.trans (hb5.mono hb13.out.size)⟩
    · have hpt := hide (fun (W : World) (A1 : Option Addr) (c1 B : Nat) (h : RdE W B A1 l) (hB : B ≤ W.heap.size) => put_ok A1 c1 l W B h hB (right_big hRt) (by omega) hRt)
      have hg2 := hide (fun (W : World) (A' : Option Addr) (c' : Nat) (h : Rd W W.heap.size A' (putB l).length ((putB l).map bv)) => dget_any A' c' (putB l) W h (by omega) (l, 0) (getR_put hRt))
      simp only at hg2
      rw [hm] at hpt hg2
      obtain ⟨q, hq⟩ : ∃ q, (putB l).length = q := ⟨_, rfl⟩
      rw [hq] at hpt hg2
      have hqI : (q : Int) ≤ (n : Int) := by omega
      clear hr hml hl hbig hm hm1 hR hRt hpl hq
      go_enter Try.func5, Try.ntmps5
      go_upto_region 10 with (first
        | (go_at_call 18; (with_reducible refine hg.out.mono ?_); rintro e w1 ⟨A1, c1, rfl, ho1, hb1⟩; have ho1 := hide ho1; have hb1 := hide hb1)
        | (go_at_call 19; (with_reducible refine (hrg.out _ hb1.out).mono ?_); rintro e w2 ⟨A2, c2, rfl, ho2, hb2⟩; have ho12 := hide (ho1.out.below hb2); have hb12 := hide (hb1.out.trans (hb2.mono hb1.out.size)); have ho2 := hide ho2; clear hb2)
        | (go_at_call 20; (with_reducible refine (hsm.out _ _ _ _ _ _ ho12.out.rd ho2.out.rd).mono ?_); rintro e w3 ⟨rfl, hb3⟩; have ho13 := hide (ho12.out.below hb3); have hb13 := hide (hb12.out.trans (hb3.mono hb12.out.size)); clear hb3)
        | (go_at_call 21; (with_reducible refine (hcd.out _ _).mono ?_); rintro e w4 ⟨rfl, rfl⟩)
        | (go_at_call 22; (with_reducible refine (hpt.out _ _ _ _ ho13.out.rd (Nat.le_refl _)).mono ?_); rintro e w6 ⟨A6, c6, rfl, ho6, hb6⟩; have ho16 := hide (ho13.out.below hb6); have hb16 := hide (hb13.out.trans (hb6.mono hb13.out.size)); have ho6 := hide ho6; clear hb6))
      clear hg hrg ho1 hb1 ho12 hb12 ho2 ho13 hb13
      go_wp2_with (first
        | (go_at_call 18; (with_reducible refine (hg2.out _ _ _ ho6.out.rd).mono ?_); rintro e w7 ⟨A7, c7, rfl, ho7, hb7⟩; have ho17 := hide (ho16.out.below hb7); have ho7 := hide ho7; have hb17 := hide (hb16.out.trans (hb7.mono hb16.out.size)); clear hb7)
        | (go_at_call 21; (with_reducible refine (hcd.out _ _).mono ?_); rintro e w4 ⟨rfl, rfl⟩)
        | (go_at_call 20; (with_reducible refine (hsm.out _ _ _ _ _ _ ho7.out.rd ho17.out.rd).mono ?_); rintro e w8 ⟨rfl, hb8⟩; have hb18 := hide (hb17.out.trans (hb8.mono hb17.out.size)); clear hb8)
        | (go_at_call 15; (with_reducible refine (hlive.out _).mono ?_); rintro e w5 ⟨rfl, hb5⟩))
      go_ret
      exact ⟨rfl, hb18.out.trans (hb5.mono hb18.out.size)⟩

end Go.Proofs.Ytmpdoileiniijaa
