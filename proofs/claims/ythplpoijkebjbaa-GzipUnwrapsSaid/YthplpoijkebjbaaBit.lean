/- The walks of layer 1 (bitio): a writer, as the list of its bits. The condition: fewer than 2^40 bits. -/
import Derived.Test.YthplpoijkebjbaaMem
import Derived.Test.YthplpoijkebjbaaBitLaw
import Derived.BigRegion
import Derived.RegionTactic
namespace Go.Proofs.Ythplpoijkebjbaa
open Go.RowKit

theorem elem_byte : Elem1 Try.prog 22 5 (.int .u8 0) 1 := ⟨Try.underlying22, by kernel_rfl, rfl⟩
theorem bv_one (bs : List UInt8) : ∀ u ∈ bs.map bv, u.oneCell' = true := by
  intro u hu
  obtain ⟨b, _, rfl⟩ := List.mem_map.1 hu
  rfl

/-- What a copy of a slice of bytes leaves. -/
def Cloned (w : World) (n : Nat) (bs : List UInt8) (e : Ending) (w' : World) : Prop :=
  ∃ A c, e = .returned (.slice A n c) ∧ Ow w' w.heap.size 5 A n c (bs.map bv) ∧ Below w.heap.size w w'

set_option maxHeartbeats 400000 in
theorem clone_any (A : Option Addr) (n c : Nat) (bs : List UInt8) (w : World) (B : Nat) (hr : Rd w B A n (bs.map bv)) (hB : B ≤ w.heap.size) (hn : n ≤ 140737488355328) :
    Calls Try.prog 75 #[.slice A n c] w (Cloned w n bs) := by
  have he := fun (W : World) (x : Option Addr) (i j : Nat) => Lib.run_eql_slice_nil (P := Try.prog) W 22 5 x i j 0 0 Try.underlying22
  cases A with
  | none =>
    have hn0 : n = 0 := by
      rcases Nat.eq_zero_or_pos n with h | h
      · exact h
      · obtain ⟨_, _, h', _⟩ := hr.2 0 h
        cases h'
    subst hn0
    have hb : bs = [] := by have := hr.len; exact List.eq_nil_of_length_eq_zero this
    subst hb
    go_enter Try.func75, Try.ntmps75
    go_wp2
    go_ret
    exact ⟨none, 0, rfl, Ow.nil _ _ _, Below.refl _ _⟩
  | some a =>
    have ho : Ow (w.alloc (.cells #[] 5)) w.heap.size 5 (some ⟨w.heap.size, 0, none⟩) 0 0 [] := Ow.lit w #[] (Nat.le_refl _) (by simp [maxLen])
    have hbw := (Below.refl w.heap.size w).alloc (Nat.le_refl _) (.cells #[] 5)
    go_enter Try.func75, Try.ntmps75
    go_wp2_with (at_builtin; refine wpList_append_rd _ rfl (.tmp 5) (.tmp 6) rfl elem_byte rfl ho rfl (hr.alloc hB _) (bv_one _) (by simp only [maxLen]; omega) (by omega) (by simp) ?_; intro A3 c3 w3 ho3 hg3 _; have hb3 := hbw.trans (hg3.to_below (B := w.heap.size) (by simp) (by simp [blk])); simp only [Nat.zero_add, List.nil_append] at ho3; clear ho)
    go_ret
    exact ⟨A3, c3, by simp, ho3, hb3⟩

/-- The writer at block g holds the bits l; its bytes lie in the row A. -/
def WrIs (w : World) (base g : Nat) (A : Option Addr) (l : List Bool) : Prop :=
  ∃ c, Blk w g 100 #[.slice A (Bit.size l.length) c, .int .i64 (l.length : Int)] ∧ Ow w base 5 A (Bit.size l.length) c ((Bit.pack l).map bv)

/-- What a write leaves. -/
def WrPost (w : World) (base g : Nat) (A : Option Addr) (l : List Bool) (w' : World) : Prop :=
  ∃ A', WrIs w' base g A' l ∧ Chg (fun k => k = g ∨ blk A = some k) w w' ∧ (blk A' = blk A ∨ ∃ k, w.heap.size ≤ k ∧ blk A' = some k)

theorem newwriter_any (w : World) : Calls Try.prog 43 #[] w fun e w' => e = .returned (.pointer (some ⟨w.heap.size, 0, none⟩)) ∧ WrIs w' w.heap.size w.heap.size none [] ∧ Below w.heap.size w w' := by
  go_enter Try.func43, Try.ntmps43
  go_wp2
  go_ret
  exact ⟨rfl, ⟨0, Blk.new w _ _, Ow.nil _ _ _⟩, (Below.refl _ _).alloc (Nat.le_refl _) _⟩

theorem bit_masked (v : Nat) (hv : v < 4294967296) : bits .and .u32 (v : Int) 1 = ((v % 2 : Nat) : Int) := by rw [← nat_mask1]; exact u32_and_nat v 1 hv (by omega)

/-- The last byte, with one bit more. -/
theorem or_bit (q s b : Nat) (hs : s < 8) (hq : q < 2 ^ s) (hb : b < 2) : bits .or .u8 (q : Int) (IntKind.u8.wrap ((b : Int) * 2 ^ s)) = ((q + 2 ^ s * b : Nat) : Int) := by
  have h2 : 2 ^ (s + 1) ≤ 2 ^ 8 := Nat.pow_le_pow_right (by omega) (by omega)
  rw [Nat.pow_succ] at h2
  have hm : 2 ^ s * b ≤ 2 ^ s * 1 := Nat.mul_le_mul_left _ (by omega)
  have e : IntKind.u8.wrap ((b : Int) * 2 ^ s) = ((2 ^ s * b : Nat) : Int) := by
    rw [show (b : Int) * 2 ^ s = ((2 ^ s * b : Nat) : Int) by push_cast; rw [Int.mul_comm], IntKind.wrap_u8']
    omega
  rw [e, u8_or_nat q (2 ^ s * b) (by omega) (by omega), Nat.or_comm, nat_join s (2 ^ s * b) q (Nat.mul_mod_right _ _) hq, Nat.add_comm]
theorem or_bit' (q s v : Nat) (hs : s < 8) (hq : q < 2 ^ s) : bits .or .u8 (q : Int) ((v : Int) % 2 * 2 ^ s % 256) = ((q + 2 ^ s * (v % 2 == 1).toNat : Nat) : Int) := by
  have hb : v % 2 < 2 := Nat.mod_lt _ (by omega)
  have ht : (v % 2 == 1).toNat = v % 2 := by rcases Nat.mod_two_eq_zero_or_one v with h | h <;> simp [h]
  rw [ht, ← or_bit q s (v % 2) hs hq hb, IntKind.wrap_u8']
  simp
theorem last_lt (l : List Bool) (h : l.length % 8 ≠ 0) : (Bit.byte l (Bit.size l.length - 1)).toNat < 2 ^ (l.length % 8) := by
  rw [Bit.byte_toNat]
  have hd : ((l.drop (8 * (Bit.size l.length - 1))).take 8).length = l.length % 8 := by rw [List.length_take, List.length_drop]; unfold Bit.size; omega
  have := Bit.num_lt ((l.drop (8 * (Bit.size l.length - 1))).take 8)
  rwa [hd] at this
theorem drewN_one (w : World) : w.drewN 1 = w.drew := by first | rfl | simp [World.drewN]

/-- The state in which the bit is set: the writer's last byte is q. -/
structure Mid (w W : World) (base g : Nat) (A : Option Addr) (l : List Bool) (ga m c : Nat) (ys : List UInt8) (q : Nat) : Prop where
  k : Blk W g 100 #[.slice (some ⟨ga, 0, none⟩) (m + 1) c, .int .i64 (l.length : Int)]
  o : Ow W base 5 (some ⟨ga, 0, none⟩) (m + 1) c (ys.map bv)
  ch : Chg (fun k => k = g ∨ blk A = some k) w W
  new : blk (some ⟨ga, 0, none⟩) = blk A ∨ ∃ k, w.heap.size ≤ k ∧ blk (some ⟨ga, 0, none⟩) = some k
  at_ : (ys.map bv)[m]? = some (.int .u8 (q : Int))
  lt : q < 2 ^ (l.length % 8)
  big : m ≤ 1099511627776
  set_ : ∀ b : Bool, Bit.pack (l ++ [b]) = ys.set m (UInt8.ofNat (q + 2 ^ (l.length % 8) * b.toNat))
  sz : Bit.size (l.length + 1) = m + 1

theorem Mid.fin {w W : World} {base g : Nat} {A : Option Addr} {l : List Bool} {ga m c : Nat} {ys : List UInt8} {q : Nat} (h : Mid w W base g A l ga m c ys q) (b : Bool) (x : Int) (hx : x = ((q + 2 ^ (l.length % 8) * b.toNat : Nat) : Int)) (k : Nat) :
    WrPost w base g A (l ++ [b]) (((W.setCell ⟨ga, m, none⟩ (.int .u8 x)).setCell ⟨g, 1, none⟩ (.int .i64 ((l.length : Int) + 1))).drewN k) := by
  have hgn : ga ≠ g := by
    have := h.o.ne h.k (by decide)
    intro e
    exact this (by rw [e]; rfl)
  have hq8 : q + 2 ^ (l.length % 8) * b.toNat < 256 := by
    have h1 : l.length % 8 < 8 := Nat.mod_lt _ (by omega)
    have h2 : 2 ^ (l.length % 8 + 1) ≤ 2 ^ 8 := Nat.pow_le_pow_right (by omega) (by omega)
    rw [Nat.pow_succ] at h2
    have h3 := h.lt
    have h4 : 2 ^ (l.length % 8) * b.toNat ≤ 2 ^ (l.length % 8) * 1 := Nat.mul_le_mul_left _ (by cases b <;> simp)
    omega
  have hlen : (l ++ [b]).length = l.length + 1 := by simp
  have hbk : ga = g ∨ blk A = some ga ∨ w.heap.size ≤ ga := by
    rcases h.new with h1 | ⟨k, h1, h2⟩
    · exact .inr (.inl h1.symm)
    · have : ga = k := by simpa [blk] using h2
      exact .inr (.inr (by omega))
  refine ⟨some ⟨ga, 0, none⟩, ⟨c, ?_, ?_⟩, ((h.ch.setCell (p := ⟨ga, m, none⟩) ?_ _).setCell (p := ⟨g, 1, none⟩) (.inr (.inl rfl)) _).drewN k, h.new⟩
  · rw [hlen, h.sz, show ((l.length + 1 : Nat) : Int) = (l.length : Int) + 1 from by omega]
    exact ((h.k.far (p := ⟨ga, m, none⟩) (fun e => hgn e.symm) _).set 1 _).drewN k
  · rw [hlen, h.sz]
    have h1 := h.o.set m (.int .u8 x)
    have h2 := h1.chg ((Chg.refl (fun k => k = g) _).setCell (p := ⟨g, 1, none⟩) (.inr rfl) (.int .i64 ((l.length : Int) + 1))) (by intro k hk; simp [blk] at hk; omega)
    have h3 : (ys.map bv).set m (.int .u8 x) = (Bit.pack (l ++ [b])).map bv := by
      rw [h.set_, List.map_set]
      congr 1
      rw [hx, bv, UInt8.toNat_ofNat', Nat.mod_eq_of_lt hq8]
    rw [h3] at h2
    exact h2
  · rcases hbk with h1 | h1 | h1
    · exact absurd h1 hgn
    · exact .inr (.inr h1)
    · exact .inl h1

theorem mid_new {w w3 : World} {base g ga c c3 : Nat} {A : Option Addr} {l : List Bool} (hk : Blk w g 100 #[.slice A (Bit.size l.length) c, .int .i64 (l.length : Int)]) (ho : Ow w base 5 A (Bit.size l.length) c ((Bit.pack l).map bv))
    (ho3 : Ow w3 base 5 (some ⟨ga, 0, none⟩) (Bit.size l.length + 1) c3 ((Bit.pack l).map bv ++ [.int .u8 0])) (hg3 : Chg (fun k => blk A = some k) w w3)
    (hn3 : blk (some ⟨ga, 0, none⟩) = blk A ∨ ∃ k, w.heap.size ≤ k ∧ blk (some ⟨ga, 0, none⟩) = some k) (h8 : l.length % 8 = 0) (hl : l.length ≤ 1099511627776) :
    Mid w (w3.setCell ⟨g, 0, none⟩ (.slice (some ⟨ga, 0, none⟩) (Bit.size l.length + 1) c3)) base g A l ga (Bit.size l.length) c3 (Bit.pack l ++ [0]) 0 := by
  have hk3 := hk.chg hg3 (ho.ne hk (by decide))
  have hgn : ga ≠ g := by
    have := ho3.ne hk3 (by decide)
    intro e
    exact this (by rw [e]; rfl)
  have hpl := Bit.pack_length l
  have hsz := Bit.size_le l.length
  refine ⟨hk3.set 0 _, ?_, (hg3.mono (fun _ _ h => .inr h)).setCell (p := ⟨g, 0, none⟩) (.inr (.inl rfl)) _, hn3, ?_, ?_, by omega, ?_, ?_⟩
  · rw [List.map_append]
    exact ho3.chg ((Chg.refl (fun k => k = g) w3).setCell (p := ⟨g, 0, none⟩) (.inr rfl) _) (by intro k hk; simp [blk] at hk; omega)
  · rw [List.map_append, List.getElem?_append_right (by rw [List.length_map, hpl]; exact Nat.le_refl _)]
    simp [hpl, bv]
  · rw [h8]; decide
  · intro b
    rw [Bit.pack_new l b h8, h8, List.set_append_right _ _ (by rw [hpl]; exact Nat.le_refl _), hpl, Nat.sub_self]
    simp
  · rw [Bit.size_succ, if_pos h8]
theorem mid_more {w : World} {base g c : Nat} {A : Option Addr} {l : List Bool} (hk : Blk w g 100 #[.slice A (Bit.size l.length) c, .int .i64 (l.length : Int)]) (ho : Ow w base 5 A (Bit.size l.length) c ((Bit.pack l).map bv))
    (h8 : l.length % 8 ≠ 0) (hl : l.length ≤ 1099511627776) : ∃ ga m q, A = some ⟨ga, 0, none⟩ ∧ Bit.size l.length = m + 1 ∧ Mid w w base g A l ga m c (Bit.pack l) q := by
  have hp : 0 < Bit.size l.length := by unfold Bit.size; omega
  have hsz := Bit.size_le l.length
  obtain ⟨ga, rfl, _, _⟩ := ho.pos hp
  have hm : Bit.size l.length = Bit.size l.length - 1 + 1 := by omega
  refine ⟨ga, Bit.size l.length - 1, (Bit.byte l (Bit.size l.length - 1)).toNat, rfl, hm, ?_, ?_, Chg.refl _ _, .inl rfl, ?_, last_lt l h8, by omega, ?_, ?_⟩
  · rw [← hm]; exact hk
  · rw [← hm]; exact ho
  · rw [List.getElem?_map, List.getElem?_eq_getElem (by rw [Bit.pack_length]; omega)]
    simp [Bit.pack, bv]
  · intro b; exact Bit.pack_more l b h8
  · rw [Bit.size_succ, if_neg h8, ← hm]

set_option maxHeartbeats 1000000 in
theorem bit_any (g : Nat) (A : Option Addr) (l : List Bool) (v : Nat) (w : World) (base : Nat) (h : WrIs w base g A l) (hb : base ≤ w.heap.size) (hl : l.length ≤ 1099511627776) (hv : v < 4294967296) :
    Calls Try.prog 102 #[.pointer (some ⟨g, 0, none⟩), .int .u32 (v : Int)] w fun e w' => e = .returned (.tuple #[]) ∧ WrPost w base g A (l ++ [v % 2 == 1]) w' := by
  obtain ⟨c, hk, ho⟩ := h
  have hsz := Bit.size_le l.length
  by_cases h8 : l.length % 8 = 0
  · have c0 : w.cell? ⟨g, 0, none⟩ = some (.slice A (Bit.size l.length) c) := hk.cell 0
    have c1 : w.cell? ⟨g, 1, none⟩ = some (.int .i64 (l.length : Int)) := hk.cell 1
    have hne := ho.ne hk (by decide)
    have h8b : ((l.length : Int) % 8 == 0) = true := by simp; omega
    go_enter Try.func102, Try.ntmps102
    go_wp2_with (at_builtin; refine wpList_append_one w rfl (.tmp 14) (.tmp 15) rfl elem_byte rfl ho (.int .u8 0) 5 _ rfl rfl (by simp only [maxLen]; omega) (by omega) hb ?_; intro A3 c3 w3 ho3 hg3 hn3; have hk3 := hk.chg hg3 hne; have d0 : w3.cell? ⟨g, 0, none⟩ = some (.slice A (Bit.size l.length) c) := hk3.cell 0; have f0 := hk3.free 0)
    obtain ⟨ga, rfl, _, _⟩ := ho3.pos (by omega)
    have hM := hide (mid_new hk ho ho3 hg3 hn3 h8 hl)
    clear c0 c1 hne h8b hk3 d0 f0 hk ho ho3 hg3 hn3
    generalize w3.setCell ⟨g, 0, none⟩ (.slice (some ⟨ga, 0, none⟩) (Bit.size l.length + 1) c3) = W at *
    generalize Bit.size l.length = m at *
    generalize Bit.pack l ++ [0] = ys at *
    have hgn : ga ≠ g := by
      have := hM.out.o.ne hM.out.k (by decide)
      intro e
      exact this (by rw [e]; rfl)
    have d0 : W.cell? ⟨g, 0, none⟩ = some (.slice (some ⟨ga, 0, none⟩) (m + 1) c3) := hM.out.k.cell 0
    have d1 : W.cell? ⟨g, 1, none⟩ = some (.int .i64 (l.length : Int)) := hM.out.k.cell 1
    have e0 : W.cell? ⟨ga, m, none⟩ = some (.int .u8 0) := by
      have h := hM.out.o.cells (g := ga) rfl m _ hM.out.at_
      rwa [Addr.add_mid, Nat.zero_add] at h
    have f0 := hM.out.o.free m
    have f1 := hM.out.k.free 1
    have hbig := hM.out.big
    have hand := bit_masked v hv
    have hor := hide (or_bit' 0 (l.length % 8) v (Nat.mod_lt _ (by omega)) hM.out.lt)
    clear hsz hb h8
    go_region
    go_wp2
    go_end0
    refine ⟨rfl, ?_⟩
    have hx := hM.out.fin (v % 2 == 1) _ hor.out 1
    rw [drewN_one] at hx
    simpa using hx
  · obtain ⟨ga, m, q, rfl, hm, hM⟩ := mid_more hk ho h8 hl
    have c0 : w.cell? ⟨g, 0, none⟩ = some (.slice (some ⟨ga, 0, none⟩) (m + 1) c) := hM.k.cell 0
    have c1 : w.cell? ⟨g, 1, none⟩ = some (.int .i64 (l.length : Int)) := hM.k.cell 1
    have e0 : w.cell? ⟨ga, m, none⟩ = some (.int .u8 (q : Int)) := by
      have h := hM.o.cells (g := ga) rfl m _ hM.at_
      rwa [Addr.add_mid, Nat.zero_add] at h
    have hgn : ga ≠ g := by
      have := hM.o.ne hM.k (by decide)
      intro e
      exact this (by rw [e]; rfl)
    have f0 := hM.o.free m
    have f1 := hM.k.free 1
    have hbig := hM.big
    have hand := bit_masked v hv
    have hor := hide (or_bit' q (l.length % 8) v (Nat.mod_lt _ (by omega)) hM.lt)
    have hMh := hide hM
    have h8b : ((l.length : Int) % 8 == 0) = false := by simp; omega
    clear hsz hb h8 hM ho hk hm
    go_enter Try.func102, Try.ntmps102
    go_wp2
    go_region
    go_wp2
    go_end0
    refine ⟨rfl, ?_⟩
    have hx := hMh.out.fin (v % 2 == 1) _ hor.out 1
    rw [drewN_one] at hx
    simpa using hx

end Go.Proofs.Ythplpoijkebjbaa
