/- The walk of the law CrcJoins: it returns true for every two slices of bytes and every number. The condition: the slices are read from where they lie. -/
import Derived.Test.YtmgajnllclodfaaCrcLive
import Derived.Test.YtmgajnllclodfaaMem
namespace Go.Proofs.Ytmgajnllclodfaa
open Go.RowKit

theorem elem_u8 : Elem1 Try.prog 22 5 (.int .u8 0) 1 := ⟨Try.underlying22, by kernel_rfl, rfl⟩
theorem bytes_one (bs : List UInt8) : ∀ u ∈ bs.map bv, u.oneCell' = true := by
  intro u hu
  obtain ⟨b, _, rfl⟩ := List.mem_map.1 hu
  rfl

/-- 'Join' at three places: what it gives, the numbers behind names. -/
abbrev JoinGives (x y : Nat) (k : Int) (z : Nat) : Prop :=
  ∀ w : World, Calls Try.prog 19 #[.int .u32 (x : Int), .int .u32 (y : Int), .int .i64 k] w fun e w' => e = .returned (.int .u32 (z : Int)) ∧ Below w.heap.size w w'
theorem join_low (x y : Nat) (k : Int) (hx : x < 4294967296) (hy : y < 4294967296) (hk : k < 0) : JoinGives x y k (x ^^^ y) :=
  fun w => crcjoin_any x y k 0 w hx hy (by omega)
theorem join_high (x y : Nat) (k : Int) (hx : x < 4294967296) (hy : y < 4294967296) (hk : 1048576 < k) : ∃ z, JoinGives x y k z ∧ JoinGives x y 1048576 z := by
  obtain ⟨m, hm⟩ : ∃ m : Nat, (m : Int) = 1048576 := ⟨1048576, rfl⟩
  exact ⟨Crc.zeros m x ^^^ y, fun w => crcjoin_any x y k m w hx hy (by omega), fun w => crcjoin_any x y 1048576 m w hx hy (by omega)⟩
theorem join_all (a b : List UInt8) (n : Nat) (hb : b.length = n) (hn : n ≤ 500) : JoinGives (Crc.sum a) (Crc.sum b) n (Crc.sum (a ++ b)) := by
  intro w
  rw [← Crc.join, hb]
  exact crcjoin_any _ _ n n w (Crc.sum_lt a) (Crc.sum_lt b) (by omega)

set_option maxRecDepth 100000 in
set_option maxHeartbeats 1000000 in
theorem crcjoins_in (A A2 : Option Addr) (n c n2 c2 : Nat) (as1 bs : List UInt8) (k : Int) (w : World) (hr : Rd w w.heap.size A n (as1.map bv)) (hr2 : Rd w w.heap.size A2 n2 (bs.map bv)) (hn : n ≤ 500) (hn2 : n2 ≤ 500)
    (hk0 : -9223372036854775808 ≤ k) (hk1 : k ≤ 9223372036854775807) :
    Calls Try.prog 4 #[.slice A n c, .slice A2 n2 c2, .int .i64 k] w fun e w' => e = .returned (.bool true) ∧ Below w.heap.size w w' := by
  have ho : Ow (w.alloc (.cells #[] 5)) w.heap.size 5 (some ⟨w.heap.size, 0, none⟩) 0 0 [] := Ow.lit w #[] (Nat.le_refl _) (by simp [maxLen])
  have hbw := (Below.refl w.heap.size w).alloc (Nat.le_refl _) (.cells #[] 5)
  have hjoin := hide (join_all as1 bs n2 hr2.len hn2)
  have hlow := fun h => join_low _ _ k (Crc.sum_lt as1) (Crc.sum_lt bs) h
  have hhigh := fun h => join_high _ _ k (Crc.sum_lt as1) (Crc.sum_lt bs) h
  have hxy := xor_two32 _ _ (Crc.sum_lt as1) (Crc.sum_lt bs)
  have hrefa := fun (W : World) (hr : Rd W w.heap.size A n (as1.map bv)) => refof_any A n c as1 W w.heap.size hr (by omega)
  have hrefb := fun (W : World) (hr : Rd W w.heap.size A2 n2 (bs.map bv)) => refof_any A2 n2 c2 bs W w.heap.size hr (by omega)
  generalize Crc.sum as1 = x at hjoin hlow hhigh hxy hrefa
  generalize Crc.sum bs = y at hjoin hlow hhigh hxy hrefb
  have hrefa := hide hrefa
  have hrefb := hide hrefb
  have hcut : (k < 0 ∧ Hid (JoinGives x y k (x ^^^ y)) ∧ True) ∨ (0 ≤ k ∧ k ≤ 1048576 ∧ True) ∨ (1048576 < k ∧ ∃ z, Hid (JoinGives x y k z) ∧ Hid (JoinGives x y 1048576 z)) := by
    by_cases h0 : k < 0
    · exact .inl ⟨h0, hlow h0, trivial⟩
    · by_cases h1 : k ≤ 1048576
      · exact .inr (.inl ⟨by omega, h1, trivial⟩)
      · obtain ⟨z, e1, e2⟩ := hhigh (by omega)
        exact .inr (.inr ⟨by omega, z, e1, e2⟩)
  clear hlow hhigh
  rcases hcut with ⟨h0, hj1, hj2⟩ | ⟨h0, hj1, hj2⟩ | ⟨h0, z, hj1, hj2⟩
  all_goals
    go_enter Try.func4, Try.ntmps4
    go_wp2_with (first
      | (at_builtin; refine wpList_append_rd _ rfl (.tmp 19) (.tmp 20) rfl elem_u8 rfl ho rfl (hr.alloc (Nat.le_refl _) _) (bytes_one _) (by simp only [maxLen]; omega) (by omega) (by simp) ?_; intro A3 c3 w3 ho3 hg3 _; have hb3 := hbw.trans (hg3.to_below (B := w.heap.size) (by simp) (by simp [blk])); simp only [Nat.zero_add, List.nil_append] at ho3; clear ho)
      | (at_builtin; refine wpList_append_rd _ rfl (.tmp 21) (.tmp 22) rfl elem_u8 rfl ho3 rfl (hr2.below hb3) (bytes_one _) (by simp only [maxLen]; omega) (by omega) hb3.size ?_; intro A4 c4 w4 ho4 hg4 _; have hb4 := hb3.trans (hg4.to_below (B := w.heap.size) hb3.size (fun i hi => (ho3.blk_lt i hi).1)); rw [← List.map_append] at ho4; have hb := Below.refl w4.heap.size w4; replace hr := hr.below hb4; replace hr2 := hr2.below hb4; have hz4 := hb4.size; clear hg3 hg4 hb3 hbw; have ha := hide (fun W (h : Below w4.heap.size w4 W) => hrefa.out W (hr.below (h.mono hz4))); have hbb := hide (fun W (h : Below w4.heap.size w4 W) => hrefb.out W (hr2.below (h.mono hz4))); have hab := hide (fun W (h : Below w4.heap.size w4 W) => refof_any A4 (n + n2) c4 (as1 ++ bs) W w4.heap.size (ho4.rd.below h) (by omega)); clear hrefa hrefb hr hr2 ho4 ho3)
      | (go_at_call 15; (with_reducible refine (ha.out _ (by assumption)).mono ?_); rintro e w' ⟨rfl, rfl⟩)
      | (go_at_call 15; (with_reducible refine (hbb.out _ (by assumption)).mono ?_); rintro e w' ⟨rfl, rfl⟩)
      | (go_at_call 15; (with_reducible refine (hab.out _ (by assumption)).mono ?_); rintro e w' ⟨rfl, rfl⟩)
      | (go_at_call 19; (with_reducible refine (hj1.out _).mono ?_); rintro e w' ⟨rfl, hbj⟩; have hbn := Below.trans (by assumption) (hbj.mono (Below.size (by assumption))); clear hbj)
      | (go_at_call 19; (with_reducible refine (hj2.out _).mono ?_); rintro e w' ⟨rfl, hbj⟩; have hbn := Below.trans (by assumption) (hbj.mono (Below.size (by assumption))); clear hbj)
      | (go_at_call 19; (with_reducible refine (hjoin.out _).mono ?_); rintro e w' ⟨rfl, hbj⟩; have hbn := Below.trans (by assumption) (hbj.mono (Below.size (by assumption))); clear hbj)
      | (go_at_call 12; (with_reducible refine (crclive_any _).mono ?_); rintro e w' ⟨rfl, hbj⟩; have hbn := Below.trans (by assumption) (hbj.mono (Below.size (by assumption))); clear hbj))
    go_ret
    exact ⟨rfl, hb4.trans (Below.mono (by assumption) hz4)⟩

set_option maxHeartbeats 400000 in
theorem crcjoins_walk (A : Option Addr) (n c : Nat) (as1 : List UInt8) (A2 : Option Addr) (n2 c2 : Nat) (bs : List UInt8) (k : Int) (w : World) (hr : Rd w w.heap.size A n (as1.map bv)) (hr2 : Rd w w.heap.size A2 n2 (bs.map bv))
    (hk0 : -9223372036854775808 ≤ k) (hk1 : k ≤ 9223372036854775807) :
    Calls Try.prog 4 #[.slice A n c, .slice A2 n2 c2, .int .i64 k] w fun e w' => e = .returned (.bool true) ∧ Below w.heap.size w w' := by
  by_cases h : n ≤ 500
  · by_cases h2 : n2 ≤ 500
    · exact crcjoins_in A A2 n c n2 c2 as1 bs k w hr hr2 h h2 hk0 hk1
    · go_enter Try.func4, Try.ntmps4
      go_wp2_with (go_at_call 12; refine (crclive_any _).mono ?_; rintro e w1 ⟨rfl, hb1⟩)
      go_ret
      exact ⟨rfl, hb1⟩
  · go_enter Try.func4, Try.ntmps4
    go_wp2_with (go_at_call 12; refine (crclive_any _).mono ?_; rintro e w1 ⟨rfl, hb1⟩)
    go_ret
    exact ⟨rfl, hb1⟩

end Go.Proofs.Ytmgajnllclodfaa
