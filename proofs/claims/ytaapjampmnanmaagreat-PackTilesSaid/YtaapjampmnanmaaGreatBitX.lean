/- The plain law of layer 1 (bitio): bits as lists of truths, their number, bytes of bits and bits of bytes. There is no condition. The walks of layer 1 (bitio): a writer, as the list of its bits. The condition: fewer than 2^40 bits. The walks of layer 1 (bitio): the rest of a writer. The walks of layer 1 (bitio): a reader. The condition: fewer than 2^36 bytes. Layer 1: writers and readers that a law made itself, and the page's example. The writer's and the reader's contracts once more, with what they keep: every block that holds neither a writer, nor a reader, nor bytes. There is no condition. The walks of layer 1's reference: lists of truths. The walk of layer 1's reference 'Bytes': the bytes of a list of truths. There is no condition. -/
import Derived.Test.YtaapjampmnanmaaGreatMem
import Derived.BigRegion
import Derived.RegionTactic
import Derived.Laws.IdiomStrings
import Derived.Laws.BytesArg
namespace Go.Proofs.YtaapjampmnanmaaGreat.Bit
def num : List Bool → Nat
  | [] => 0
  | b :: r => b.toNat + 2 * num r
def low (v n : Nat) : List Bool := (List.range n).map v.testBit
def bitsOf : List UInt8 → List Bool
  | [] => []
  | b :: r => low b.toNat 8 ++ bitsOf r
def size (n : Nat) : Nat := (n + 7) / 8
def byte (l : List Bool) (j : Nat) : UInt8 := UInt8.ofNat (num ((l.drop (8 * j)).take 8))
def pack (l : List Bool) : List UInt8 := (List.range (size l.length)).map (byte l)
def gap (n : Nat) : Nat := (8 - n % 8) % 8
theorem num_lt (l : List Bool) : num l < 2 ^ l.length := by
  induction l with
  | nil => exact Nat.one_pos
  | cons b r ih => rw [num, List.length_cons, Nat.pow_succ]; cases b <;> simp <;> omega
theorem num_append (a b : List Bool) : num (a ++ b) = num a + 2 ^ a.length * num b := by
  induction a with
  | nil => simp [num]
  | cons x r ih => rw [List.cons_append, num, ih, num, List.length_cons, Nat.pow_succ, Nat.mul_add, Nat.mul_comm (2 ^ r.length) 2, Nat.mul_assoc]; omega
theorem num_snoc (l : List Bool) (b : Bool) : num (l ++ [b]) = num l + 2 ^ l.length * b.toNat := by rw [num_append]; simp [num]
theorem low_length (v n : Nat) : (low v n).length = n := by simp [low]
theorem low_succ (v n : Nat) : low v (n + 1) = low v n ++ [v.testBit n] := by simp [low, List.range_succ]
theorem low_cons (v n : Nat) : low v (n + 1) = (v % 2 == 1) :: low (v / 2) n := by
  simp only [low, List.range_succ_eq_map, List.map_cons, List.map_map]
  congr 1
  · rw [Nat.testBit_zero]; by_cases h : v % 2 = 1 <;> simp [h]
  · apply List.map_congr_left
    intro i _
    simp [Nat.testBit_succ]
theorem num_low (n : Nat) : ∀ v, num (low v n) = v % 2 ^ n := by
  induction n with
  | zero => intro v; simp [low, num, Nat.mod_one]
  | succ n ih =>
    intro v
    rw [low_cons, num, ih, Nat.pow_succ, Nat.mul_comm (2 ^ n) 2, Nat.mod_mul]
    rcases Nat.mod_two_eq_zero_or_one v with h | h <;> simp [h]
theorem bitsOf_length (bs : List UInt8) : (bitsOf bs).length = 8 * bs.length := by
  induction bs with
  | nil => rfl
  | cons b r ih => rw [bitsOf, List.length_append, low_length, ih, List.length_cons]; omega
theorem bitsOf_get (bs : List UInt8) : ∀ i (h : i < 8 * bs.length), (bitsOf bs)[i]'(by rw [bitsOf_length]; exact h) = (bs[i / 8]'(by omega)).toNat.testBit (i % 8) := by
  induction bs with
  | nil => intro i h; simp at h
  | cons b r ih =>
    intro i h
    have hl := low_length b.toNat 8
    by_cases hi : i < 8
    · have e : i / 8 = 0 := by omega
      have e2 : i % 8 = i := by omega
      simp only [bitsOf, e, e2, List.getElem_cons_zero]
      rw [List.getElem_append_left (by omega)]
      simp [low]
    · have h' : i - 8 < 8 * r.length := by rw [List.length_cons] at h; omega
      have e : i / 8 = (i - 8) / 8 + 1 := by omega
      have e2 : i % 8 = (i - 8) % 8 := by omega
      simp only [bitsOf, e, e2, List.getElem_cons_succ]
      rw [List.getElem_append_right (by omega)]
      simp only [hl]
      exact ih (i - 8) h'
theorem size_le (n : Nat) : size n ≤ n := by unfold size; omega
theorem size_succ (n : Nat) : size (n + 1) = if n % 8 = 0 then size n + 1 else size n := by unfold size; split <;> omega
theorem pack_length (l : List Bool) : (pack l).length = size l.length := by simp [pack]
theorem byte_toNat (l : List Bool) (j : Nat) : (byte l j).toNat = num ((l.drop (8 * j)).take 8) := by
  have h := num_lt ((l.drop (8 * j)).take 8)
  have hl : ((l.drop (8 * j)).take 8).length ≤ 8 := List.length_take_le _ _
  have h2 : 2 ^ ((l.drop (8 * j)).take 8).length ≤ 2 ^ 8 := Nat.pow_le_pow_right (by omega) hl
  unfold byte
  rw [UInt8.toNat_ofNat', Nat.mod_eq_of_lt (by omega)]
theorem pack_new (l : List Bool) (b : Bool) (h : l.length % 8 = 0) : pack (l ++ [b]) = pack l ++ [UInt8.ofNat b.toNat] := by
  have hs : size (l ++ [b]).length = size l.length + 1 := by rw [List.length_append, List.length_singleton, size_succ, if_pos h]
  have h8 : size l.length = l.length / 8 := by unfold size; omega
  unfold pack
  rw [hs, List.range_succ, List.map_append]
  congr 1
  · apply List.map_congr_left
    intro j hj
    have hj' : j < size l.length := by simpa using hj
    unfold byte
    rw [List.drop_append_of_le_length (by omega), List.take_append_of_le_length (by rw [List.length_drop]; omega)]
  · simp only [List.map_cons, List.map_nil, byte]
    rw [h8, List.drop_append_of_le_length (by omega), List.drop_of_length_le (l := l) (by omega)]
    simp [num]
theorem pack_more (l : List Bool) (b : Bool) (h : l.length % 8 ≠ 0) :
    pack (l ++ [b]) = (pack l).set (size l.length - 1) (UInt8.ofNat ((byte l (size l.length - 1)).toNat + 2 ^ (l.length % 8) * b.toNat)) := by
  have hs : size (l ++ [b]).length = size l.length := by rw [List.length_append, List.length_singleton, size_succ, if_neg h]
  have h8 : size l.length - 1 = l.length / 8 := by unfold size; omega
  have hp : 0 < size l.length := by unfold size; omega
  apply List.ext_getElem
  · rw [List.length_set, pack_length, pack_length, hs]
  · intro j h1 h2
    rw [pack_length, hs] at h1
    rw [List.getElem_set]
    simp only [pack, List.getElem_map, List.getElem_range]
    by_cases hj : size l.length - 1 = j
    · rw [if_pos hj, byte_toNat, hj]
      have hj8 : j = l.length / 8 := by omega
      unfold byte
      congr 1
      rw [List.drop_append_of_le_length (by omega)]
      have hd : (l.drop (8 * j)).length = l.length % 8 := by rw [List.length_drop]; omega
      rw [List.take_of_length_le (by rw [List.length_append, hd, List.length_singleton]; omega), List.take_of_length_le (by omega), num_snoc, hd]
    · rw [if_neg hj]
      unfold byte
      rw [List.drop_append_of_le_length (by omega), List.take_append_of_le_length (by rw [List.length_drop]; omega)]
theorem num_pad (l : List Bool) (k : Nat) : num (l ++ List.replicate k false) = num l := by
  rw [num_append]
  have : num (List.replicate k false) = 0 := by
    induction k with
    | zero => rfl
    | succ k ih => rw [List.replicate_succ, num, ih]; rfl
  rw [this]; omega
theorem pack_pad (l : List Bool) : pack (l ++ List.replicate (gap l.length) false) = pack l := by
  have hs : size (l ++ List.replicate (gap l.length) false).length = size l.length := by
    rw [List.length_append, List.length_replicate]; unfold size gap; omega
  unfold pack
  rw [hs]
  apply List.map_congr_left
  intro j hj
  have hj' : j < size l.length := by simpa using hj
  have h8 : 8 * j ≤ l.length := by unfold size at hj'; omega
  unfold byte
  rw [List.drop_append_of_le_length h8, List.take_append]
  have ht : (List.replicate (gap l.length) false).take (8 - (l.drop (8 * j)).length) = List.replicate (min (8 - (l.drop (8 * j)).length) (gap l.length)) false := by rw [List.take_replicate]
  rw [ht, num_pad]
theorem bitsOf_pack (l : List Bool) : bitsOf (pack l) = l ++ List.replicate (gap l.length) false := by
  apply List.ext_getElem
  · rw [bitsOf_length, pack_length, List.length_append, List.length_replicate]; unfold size gap; omega
  · intro i h1 h2
    rw [bitsOf_length, pack_length] at h1
    rw [bitsOf_get (pack l) i (by rw [pack_length]; exact h1)]
    simp only [pack, List.getElem_map, List.getElem_range]
    rw [byte_toNat]
    have hb : ∀ (m : List Bool) (k : Nat), (num m).testBit k = m.getD k false := by
      intro m
      induction m with
      | nil => intro k; simp [num]
      | cons x r ih =>
        intro k
        cases k with
        | zero => rw [num, Nat.testBit_zero]; cases x <;> simp <;> omega
        | succ k =>
          rw [num, Nat.testBit_succ]
          have : (x.toNat + 2 * num r) / 2 = num r := by cases x <;> simp <;> omega
          rw [this, ih]; simp
    rw [hb, List.getD_eq_getElem?_getD, List.getElem?_take, if_pos (Nat.mod_lt _ (by omega)), List.getElem?_drop, show 8 * (i / 8) + i % 8 = i from by omega]
    by_cases hi : i < l.length
    · rw [List.getElem?_eq_getElem hi, List.getElem_append_left hi]; rfl
    · rw [List.getElem?_eq_none (by omega), List.getElem_append_right (by omega)]; simp
end Go.Proofs.YtaapjampmnanmaaGreat.Bit
namespace Go.Proofs.YtaapjampmnanmaaGreat
open Go.RowKit
theorem elem_byte : Elem1 Tryz.prog 22 5 (.int .u8 0) 1 := ⟨Tryz.underlying22, by kernel_rfl, rfl⟩
theorem bv_one (bs : List UInt8) : ∀ u ∈ bs.map bv, u.oneCell' = true := by
  intro u hu
  obtain ⟨b, _, rfl⟩ := List.mem_map.1 hu
  rfl
def Cloned (w : World) (n : Nat) (bs : List UInt8) (e : Ending) (w' : World) : Prop :=
  ∃ A c, e = .returned (.slice A n c) ∧ Ow w' w.heap.size 5 A n c (bs.map bv) ∧ Below w.heap.size w w'
set_option maxHeartbeats 400000 in
theorem clone_any (A : Option Addr) (n c : Nat) (bs : List UInt8) (w : World) (B : Nat) (hr : Rd w B A n (bs.map bv)) (hB : B ≤ w.heap.size) (hn : n ≤ 140737488355328) :
    Calls Tryz.prog 68 #[.slice A n c] w (Cloned w n bs) := by
  have he := fun (W : World) (x : Option Addr) (i j : Nat) => Lib.run_eql_slice_nil (P := Tryz.prog) W 22 5 x i j 0 0 Tryz.underlying22
  cases A with
  | none =>
    have hn0 : n = 0 := by
      rcases Nat.eq_zero_or_pos n with h | h
      · exact h
      · obtain ⟨_, _, h', _⟩ := hr.2 0 h
        cases h'
    subst hn0
    have hb : bs = [] := by have := hr.len; exact List.eq_nil_of_length_eq_zero this
    subst hb
    go_enter Tryz.func68, Tryz.ntmps68
    go_wp2
    go_ret
    exact ⟨none, 0, rfl, Ow.nil _ _ _, Below.refl _ _⟩
  | some a =>
    have ho : Ow (w.alloc (.cells #[] 5)) w.heap.size 5 (some ⟨w.heap.size, 0, none⟩) 0 0 [] := Ow.lit w #[] (Nat.le_refl _) (by simp [maxLen])
    have hbw := (Below.refl w.heap.size w).alloc (Nat.le_refl _) (.cells #[] 5)
    go_enter Tryz.func68, Tryz.ntmps68
    go_wp2_with (at_builtin; refine wpList_append_rd _ rfl (.tmp 5) (.tmp 6) rfl elem_byte rfl ho rfl (hr.alloc hB _) (bv_one _) (by simp only [maxLen]; omega) (by omega) (by simp) ?_; intro A3 c3 w3 ho3 hg3 _; have hb3 := hbw.trans (hg3.to_below (B := w.heap.size) (by simp) (by simp [blk])); simp only [Nat.zero_add, List.nil_append] at ho3; clear ho)
    go_ret
    exact ⟨A3, c3, by simp, ho3, hb3⟩
def WrIs (w : World) (base g : Nat) (A : Option Addr) (l : List Bool) : Prop :=
  ∃ c, Blk w g 232 #[.slice A (Bit.size l.length) c, .int .i64 (l.length : Int)] ∧ Ow w base 5 A (Bit.size l.length) c ((Bit.pack l).map bv)
def WrPost (w : World) (base g : Nat) (A : Option Addr) (l : List Bool) (w' : World) : Prop :=
  ∃ A', WrIs w' base g A' l ∧ Chg (fun k => k = g ∨ blk A = some k) w w' ∧ (blk A' = blk A ∨ ∃ k, w.heap.size ≤ k ∧ blk A' = some k)
theorem newwriter_any (w : World) : Calls Tryz.prog 130 #[] w fun e w' => e = .returned (.pointer (some ⟨w.heap.size, 0, none⟩)) ∧ WrIs w' w.heap.size w.heap.size none [] ∧ Below w.heap.size w w' := by
  go_enter Tryz.func130, Tryz.ntmps130
  go_wp2
  go_ret
  exact ⟨rfl, ⟨0, Blk.new w _ _, Ow.nil _ _ _⟩, (Below.refl _ _).alloc (Nat.le_refl _) _⟩
theorem bit_masked (v : Nat) (hv : v < 4294967296) : bits .and .u32 (v : Int) 1 = ((v % 2 : Nat) : Int) := by rw [← nat_mask1]; exact u32_and_nat v 1 hv (by omega)
theorem or_bit (q s b : Nat) (hs : s < 8) (hq : q < 2 ^ s) (hb : b < 2) : bits .or .u8 (q : Int) (IntKind.u8.wrap ((b : Int) * 2 ^ s)) = ((q + 2 ^ s * b : Nat) : Int) := by
  have h2 : 2 ^ (s + 1) ≤ 2 ^ 8 := Nat.pow_le_pow_right (by omega) (by omega)
  rw [Nat.pow_succ] at h2
  have hm : 2 ^ s * b ≤ 2 ^ s * 1 := Nat.mul_le_mul_left _ (by omega)
  have e : IntKind.u8.wrap ((b : Int) * 2 ^ s) = ((2 ^ s * b : Nat) : Int) := by
    rw [show (b : Int) * 2 ^ s = ((2 ^ s * b : Nat) : Int) by push_cast; rw [Int.mul_comm], IntKind.wrap_u8']
    omega
  rw [e, u8_or_nat q (2 ^ s * b) (by omega) (by omega), Nat.or_comm, nat_join s (2 ^ s * b) q (Nat.mul_mod_right _ _) hq, Nat.add_comm]
theorem or_bit' (q s v : Nat) (hs : s < 8) (hq : q < 2 ^ s) : bits .or .u8 (q : Int) ((v : Int) % 2 * 2 ^ s % 256) = ((q + 2 ^ s * (v % 2 == 1).toNat : Nat) : Int) := by
  have hb : v % 2 < 2 := Nat.mod_lt _ (by omega)
  have ht : (v % 2 == 1).toNat = v % 2 := by rcases Nat.mod_two_eq_zero_or_one v with h | h <;> simp [h]
  rw [ht, ← or_bit q s (v % 2) hs hq hb, IntKind.wrap_u8']
  simp
theorem last_lt (l : List Bool) (h : l.length % 8 ≠ 0) : (Bit.byte l (Bit.size l.length - 1)).toNat < 2 ^ (l.length % 8) := by
  rw [Bit.byte_toNat]
  have hd : ((l.drop (8 * (Bit.size l.length - 1))).take 8).length = l.length % 8 := by rw [List.length_take, List.length_drop]; unfold Bit.size; omega
  have := Bit.num_lt ((l.drop (8 * (Bit.size l.length - 1))).take 8)
  rwa [hd] at this
theorem drewN_one (w : World) : w.drewN 1 = w.drew := by first | rfl | simp [World.drewN]
structure Mid (w W : World) (base g : Nat) (A : Option Addr) (l : List Bool) (ga m c : Nat) (ys : List UInt8) (q : Nat) : Prop where
  k : Blk W g 232 #[.slice (some ⟨ga, 0, none⟩) (m + 1) c, .int .i64 (l.length : Int)]
  o : Ow W base 5 (some ⟨ga, 0, none⟩) (m + 1) c (ys.map bv)
  ch : Chg (fun k => k = g ∨ blk A = some k) w W
  new : blk (some ⟨ga, 0, none⟩) = blk A ∨ ∃ k, w.heap.size ≤ k ∧ blk (some ⟨ga, 0, none⟩) = some k
  at_ : (ys.map bv)[m]? = some (.int .u8 (q : Int))
  lt : q < 2 ^ (l.length % 8)
  big : m ≤ 1099511627776
  set_ : ∀ b : Bool, Bit.pack (l ++ [b]) = ys.set m (UInt8.ofNat (q + 2 ^ (l.length % 8) * b.toNat))
  sz : Bit.size (l.length + 1) = m + 1
theorem Mid.fin {w W : World} {base g : Nat} {A : Option Addr} {l : List Bool} {ga m c : Nat} {ys : List UInt8} {q : Nat} (h : Mid w W base g A l ga m c ys q) (b : Bool) (x : Int) (hx : x = ((q + 2 ^ (l.length % 8) * b.toNat : Nat) : Int)) (k : Nat) :
    WrPost w base g A (l ++ [b]) (((W.setCell ⟨ga, m, none⟩ (.int .u8 x)).setCell ⟨g, 1, none⟩ (.int .i64 ((l.length : Int) + 1))).drewN k) := by
  have hgn : ga ≠ g := by
    have := h.o.ne h.k (by decide)
    intro e
    exact this (by rw [e]; rfl)
  have hq8 : q + 2 ^ (l.length % 8) * b.toNat < 256 := by
    have h1 : l.length % 8 < 8 := Nat.mod_lt _ (by omega)
    have h2 : 2 ^ (l.length % 8 + 1) ≤ 2 ^ 8 := Nat.pow_le_pow_right (by omega) (by omega)
    rw [Nat.pow_succ] at h2
    have h3 := h.lt
    have h4 : 2 ^ (l.length % 8) * b.toNat ≤ 2 ^ (l.length % 8) * 1 := Nat.mul_le_mul_left _ (by cases b <;> simp)
    omega
  have hlen : (l ++ [b]).length = l.length + 1 := by simp
  have hbk : ga = g ∨ blk A = some ga ∨ w.heap.size ≤ ga := by
    rcases h.new with h1 | ⟨k, h1, h2⟩
    · exact .inr (.inl h1.symm)
    · have : ga = k := by simpa [blk] using h2
      exact .inr (.inr (by omega))
  refine ⟨some ⟨ga, 0, none⟩, ⟨c, ?_, ?_⟩, ((h.ch.setCell (p := ⟨ga, m, none⟩) ?_ _).setCell (p := ⟨g, 1, none⟩) (.inr (.inl rfl)) _).drewN k, h.new⟩
  · rw [hlen, h.sz, show ((l.length + 1 : Nat) : Int) = (l.length : Int) + 1 from by omega]
    exact ((h.k.far (p := ⟨ga, m, none⟩) (fun e => hgn e.symm) _).set 1 _).drewN k
  · rw [hlen, h.sz]
    have h1 := h.o.set m (.int .u8 x)
    have h2 := h1.chg ((Chg.refl (fun k => k = g) _).setCell (p := ⟨g, 1, none⟩) (.inr rfl) (.int .i64 ((l.length : Int) + 1))) (by intro k hk; simp [blk] at hk; omega)
    have h3 : (ys.map bv).set m (.int .u8 x) = (Bit.pack (l ++ [b])).map bv := by
      rw [h.set_, List.map_set]
      congr 1
      rw [hx, bv, UInt8.toNat_ofNat', Nat.mod_eq_of_lt hq8]
    rw [h3] at h2
    exact h2
  · rcases hbk with h1 | h1 | h1
    · exact absurd h1 hgn
    · exact .inr (.inr h1)
    · exact .inl h1
theorem mid_new {w w3 : World} {base g ga c c3 : Nat} {A : Option Addr} {l : List Bool} (hk : Blk w g 232 #[.slice A (Bit.size l.length) c, .int .i64 (l.length : Int)]) (ho : Ow w base 5 A (Bit.size l.length) c ((Bit.pack l).map bv))
    (ho3 : Ow w3 base 5 (some ⟨ga, 0, none⟩) (Bit.size l.length + 1) c3 ((Bit.pack l).map bv ++ [.int .u8 0])) (hg3 : Chg (fun k => blk A = some k) w w3)
    (hn3 : blk (some ⟨ga, 0, none⟩) = blk A ∨ ∃ k, w.heap.size ≤ k ∧ blk (some ⟨ga, 0, none⟩) = some k) (h8 : l.length % 8 = 0) (hl : l.length ≤ 1099511627776) :
    Mid w (w3.setCell ⟨g, 0, none⟩ (.slice (some ⟨ga, 0, none⟩) (Bit.size l.length + 1) c3)) base g A l ga (Bit.size l.length) c3 (Bit.pack l ++ [0]) 0 := by
  have hk3 := hk.chg hg3 (ho.ne hk (by decide))
  have hgn : ga ≠ g := by
    have := ho3.ne hk3 (by decide)
    intro e
    exact this (by rw [e]; rfl)
  have hpl := Bit.pack_length l
  have hsz := Bit.size_le l.length
  refine ⟨hk3.set 0 _, ?_, (hg3.mono (fun _ _ h => .inr h)).setCell (p := ⟨g, 0, none⟩) (.inr (.inl rfl)) _, hn3, ?_, ?_, by omega, ?_, ?_⟩
  · rw [List.map_append]
    exact ho3.chg ((Chg.refl (fun k => k = g) w3).setCell (p := ⟨g, 0, none⟩) (.inr rfl) _) (by intro k hk; simp [blk] at hk; omega)
  · rw [List.map_append, List.getElem?_append_right (by rw [List.length_map, hpl]; exact Nat.le_refl _)]
    simp [hpl, bv]
  · rw [h8]; decide
  · intro b
    rw [Bit.pack_new l b h8, h8, List.set_append_right _ _ (by rw [hpl]; exact Nat.le_refl _), hpl, Nat.sub_self]
    simp
  · rw [Bit.size_succ, if_pos h8]
theorem mid_more {w : World} {base g c : Nat} {A : Option Addr} {l : List Bool} (hk : Blk w g 232 #[.slice A (Bit.size l.length) c, .int .i64 (l.length : Int)]) (ho : Ow w base 5 A (Bit.size l.length) c ((Bit.pack l).map bv))
    (h8 : l.length % 8 ≠ 0) (hl : l.length ≤ 1099511627776) : ∃ ga m q, A = some ⟨ga, 0, none⟩ ∧ Bit.size l.length = m + 1 ∧ Mid w w base g A l ga m c (Bit.pack l) q := by
  have hp : 0 < Bit.size l.length := by unfold Bit.size; omega
  have hsz := Bit.size_le l.length
  obtain ⟨ga, rfl, _, _⟩ := ho.pos hp
  have hm : Bit.size l.length = Bit.size l.length - 1 + 1 := by omega
  refine ⟨ga, Bit.size l.length - 1, (Bit.byte l (Bit.size l.length - 1)).toNat, rfl, hm, ?_, ?_, Chg.refl _ _, .inl rfl, ?_, last_lt l h8, by omega, ?_, ?_⟩
  · rw [← hm]; exact hk
  · rw [← hm]; exact ho
  · rw [List.getElem?_map, List.getElem?_eq_getElem (by rw [Bit.pack_length]; omega)]
    simp [Bit.pack, bv]
  · intro b; exact Bit.pack_more l b h8
  · rw [Bit.size_succ, if_neg h8, ← hm]
set_option maxHeartbeats 1000000 in
theorem bit_any (g : Nat) (A : Option Addr) (l : List Bool) (v : Nat) (w : World) (base : Nat) (h : WrIs w base g A l) (hb : base ≤ w.heap.size) (hl : l.length ≤ 1099511627776) (hv : v < 4294967296) :
    Calls Tryz.prog 184 #[.pointer (some ⟨g, 0, none⟩), .int .u32 (v : Int)] w fun e w' => e = .returned (.tuple #[]) ∧ WrPost w base g A (l ++ [v % 2 == 1]) w' := by
  obtain ⟨c, hk, ho⟩ := h
  have hsz := Bit.size_le l.length
  by_cases h8 : l.length % 8 = 0
  · have c0 : w.cell? ⟨g, 0, none⟩ = some (.slice A (Bit.size l.length) c) := hk.cell 0
    have c1 : w.cell? ⟨g, 1, none⟩ = some (.int .i64 (l.length : Int)) := hk.cell 1
    have hne := ho.ne hk (by decide)
    have h8b : ((l.length : Int) % 8 == 0) = true := by simp; omega
    go_enter Tryz.func184, Tryz.ntmps184
    go_wp2_with (at_builtin; refine wpList_append_one w rfl (.tmp 14) (.tmp 15) rfl elem_byte rfl ho (.int .u8 0) 5 _ rfl rfl (by simp only [maxLen]; omega) (by omega) hb ?_; intro A3 c3 w3 ho3 hg3 hn3; have hk3 := hk.chg hg3 hne; have d0 : w3.cell? ⟨g, 0, none⟩ = some (.slice A (Bit.size l.length) c) := hk3.cell 0; have f0 := hk3.free 0)
    obtain ⟨ga, rfl, _, _⟩ := ho3.pos (by omega)
    have hM := hide (mid_new hk ho ho3 hg3 hn3 h8 hl)
    clear c0 c1 hne h8b hk3 d0 f0 hk ho ho3 hg3 hn3
    generalize w3.setCell ⟨g, 0, none⟩ (.slice (some ⟨ga, 0, none⟩) (Bit.size l.length + 1) c3) = W at *
    generalize Bit.size l.length = m at *
    generalize Bit.pack l ++ [0] = ys at *
    have hgn : ga ≠ g := by
      have := hM.out.o.ne hM.out.k (by decide)
      intro e
      exact this (by rw [e]; rfl)
    have d0 : W.cell? ⟨g, 0, none⟩ = some (.slice (some ⟨ga, 0, none⟩) (m + 1) c3) := hM.out.k.cell 0
    have d1 : W.cell? ⟨g, 1, none⟩ = some (.int .i64 (l.length : Int)) := hM.out.k.cell 1
    have e0 : W.cell? ⟨ga, m, none⟩ = some (.int .u8 0) := by
      have h := hM.out.o.cells (g := ga) rfl m _ hM.out.at_
      rwa [Addr.add_mid, Nat.zero_add] at h
    have f0 := hM.out.o.free m
    have f1 := hM.out.k.free 1
    have hbig := hM.out.big
    have hand := bit_masked v hv
    have hor := hide (or_bit' 0 (l.length % 8) v (Nat.mod_lt _ (by omega)) hM.out.lt)
    clear hsz hb h8
    go_region
    go_wp2
    go_end0
    refine ⟨rfl, ?_⟩
    have hx := hM.out.fin (v % 2 == 1) _ hor.out 1
    rw [drewN_one] at hx
    simpa using hx
  · obtain ⟨ga, m, q, rfl, hm, hM⟩ := mid_more hk ho h8 hl
    have c0 : w.cell? ⟨g, 0, none⟩ = some (.slice (some ⟨ga, 0, none⟩) (m + 1) c) := hM.k.cell 0
    have c1 : w.cell? ⟨g, 1, none⟩ = some (.int .i64 (l.length : Int)) := hM.k.cell 1
    have e0 : w.cell? ⟨ga, m, none⟩ = some (.int .u8 (q : Int)) := by
      have h := hM.o.cells (g := ga) rfl m _ hM.at_
      rwa [Addr.add_mid, Nat.zero_add] at h
    have hgn : ga ≠ g := by
      have := hM.o.ne hM.k (by decide)
      intro e
      exact this (by rw [e]; rfl)
    have f0 := hM.o.free m
    have f1 := hM.k.free 1
    have hbig := hM.big
    have hand := bit_masked v hv
    have hor := hide (or_bit' q (l.length % 8) v (Nat.mod_lt _ (by omega)) hM.lt)
    have hMh := hide hM
    have h8b : ((l.length : Int) % 8 == 0) = false := by simp; omega
    clear hsz hb h8 hM ho hk hm
    go_enter Tryz.func184, Tryz.ntmps184
    go_wp2
    go_region
    go_wp2
    go_end0
    refine ⟨rfl, ?_⟩
    have hx := hMh.out.fin (v % 2 == 1) _ hor.out 1
    rw [drewN_one] at hx
    simpa using hx
end Go.Proofs.YtaapjampmnanmaaGreat
namespace Go.Proofs.YtaapjampmnanmaaGreat
open Go.RowKit
theorem gap_and (n : Nat) (hn : n ≤ 1099511627776) : bits .and .i64 (-(n : Int)) 7 = ((Bit.gap n : Nat) : Int) := by
  show IntKind.i64.wrap ((BitVec.ofInt 64 (-(n : Int)) &&& BitVec.ofInt 64 (7 : Int)).toNat : Int) = _
  have h7 : (BitVec.ofInt 64 (7 : Int)).toNat = 2 ^ 3 - 1 := by decide
  rw [BitVec.toNat_and, h7, Nat.and_two_pow_sub_one_eq_mod, BitVec.toNat_ofInt]
  unfold Bit.gap
  have e : (((-(n : Int)) % ((2 ^ 64 : Nat) : Int)).toNat % 2 ^ 3 : Nat) = (8 - n % 8) % 8 := by
    have : ((2 ^ 64 : Nat) : Int) = 18446744073709551616 := by decide
    omega
  rw [e, IntKind.wrap_i64]
  omega
theorem right_ok (g : Nat) (n : Nat) (w : World) (h : n ≤ 32) : Calls Tryz.prog 183 #[.pointer (some ⟨g, 0, none⟩), .int .i64 (n : Int)] w fun e w' => e = .returned (.int .i64 0) ∧ w = w' := by
  go_enter Tryz.func183, Tryz.ntmps183
  go_wp2
  go_ret
  exact ⟨rfl, rfl⟩
theorem WrPost.trans {w w1 w2 : World} {base g : Nat} {A A1 : Option Addr} {l : List Bool} (hg : Chg (fun k => k = g ∨ blk A = some k) w w1) (hb : blk A1 = blk A ∨ ∃ k, w.heap.size ≤ k ∧ blk A1 = some k) (h : WrPost w1 base g A1 l w2) : WrPost w base g A l w2 := by
  obtain ⟨A2, h1, h2, h3⟩ := h
  refine ⟨A2, h1, hg.trans h2 ?_, ?_⟩
  · intro i hi hr
    rcases hr with hr | hr
    · exact .inl hr
    · rcases hb with hb | ⟨k, hk, hb⟩
      · exact .inr (hb ▸ hr)
      · rw [hb] at hr
        cases hr
        omega
  · rcases h3 with h3 | ⟨k, hk, h3⟩
    · rcases hb with hb | ⟨k, hk, hb⟩
      · exact .inl (h3.trans hb)
      · exact .inr ⟨k, hk, h3.trans hb⟩
    · exact .inr ⟨k, by have := hg.size; omega, h3⟩
theorem WrPost.refl {w : World} {base g : Nat} {A : Option Addr} {l : List Bool} (h : WrIs w base g A l) : WrPost w base g A l w := ⟨A, h, Chg.refl _ _, .inl rfl⟩
set_option maxHeartbeats 1000000 in
theorem wbits_ok (g : Nat) (A : Option Addr) (l : List Bool) (v n : Nat) (w : World) (base : Nat) (h : WrIs w base g A l) (hb : base ≤ w.heap.size) (hl : l.length ≤ 1000000000000) (hv : v < 4294967296) (hn : n ≤ 32) :
    Calls Tryz.prog 161 #[.pointer (some ⟨g, 0, none⟩), .int .u32 (v : Int), .int .i64 (n : Int)] w fun e w' => e = .returned (.int .i64 0) ∧ WrPost w base g A (l ++ Bit.low v n) w' := by
  have hr := hide (right_ok g n w hn)
  have hbit : Hid (∀ (k : Nat) (W : World), k < n → WrPost w base g A (l ++ Bit.low v k) W → Calls Tryz.prog 184 #[.pointer (some ⟨g, 0, none⟩), .int .u32 ((v / 2 ^ k : Nat) : Int)] W fun e w' => e = .returned (.tuple #[]) ∧ WrPost w base g A (l ++ Bit.low v (k + 1)) w') := by
    intro k W hk hp
    obtain ⟨A1, h1, h2, h3⟩ := hp
    refine (bit_any g A1 (l ++ Bit.low v k) (v / 2 ^ k) W base h1 (by have := h2.size; omega) ?_ ?_).mono ?_
    · rw [List.length_append, Bit.low_length]; omega
    · exact Nat.lt_of_le_of_lt (Nat.div_le_self _ _) hv
    · rintro e w' ⟨rfl, hq⟩
      refine ⟨rfl, ?_⟩
      have := WrPost.trans h2 h3 hq
      rw [List.append_assoc] at this
      rw [Bit.low_succ]
      have e : v.testBit k = (v / 2 ^ k % 2 == 1) := by rw [Nat.testBit_eq_decide_div_mod_eq]; rw [Bool.beq_eq_decide_eq]
      rw [e]
      exact this
  have hp0 : Hid (WrPost w base g A (l ++ Bit.low v 0) w) := by
    show WrPost w base g A (l ++ Bit.low v 0) w
    rw [show Bit.low v 0 = [] from rfl, List.append_nil]
    exact WrPost.refl h
  clear h hl
  go_enter Tryz.func161, Tryz.ntmps161
  go_wp2_with (go_at_call 183; (with_reducible refine hr.out.mono ?_); rintro e w' ⟨rfl, rfl⟩)
  go_loopw [15] (fun i wr => ∃ k : Nat, k ≤ n ∧ i = .int .i64 k ∧ Hid (WrPost w base g A (l ++ Bit.low v k) wr)) (fun i _ => n - (intOf i).toNat)
  case atStart => exact ⟨0, by omega, rfl, hp0⟩
  case round =>
    obtain ⟨k, hk, rfl, hp⟩ := hrel
    by_cases hlt : k < n
    · have hc := hbit.out k _ hlt hp
      rw [show ((v / 2 ^ k : Nat) : Int) = (v : Int) / 2 ^ k from by norm_cast] at hc
      have hc := hide hc
      go_wp2_with (go_at_call 184; (with_reducible refine hc.out.mono ?_); rintro e w5 ⟨rfl, hp5⟩; have hp5 := hide hp5)
      go_roundw
      case rel => exact ⟨k + 1, by omega, by go_num, hp5⟩
      case measure => simp [intOf]; omega
    · obtain rfl : k = n := by omega
      go_wp2
      go_ret
      exact ⟨rfl, hp⟩
theorem low_get (v n i : Nat) (h : i < (Bit.low v n).length) : (Bit.low v n)[i] = v.testBit i := by simp [Bit.low]
set_option maxHeartbeats 1000000 in
theorem wturned_ok (g : Nat) (A : Option Addr) (l : List Bool) (v n : Nat) (w : World) (base : Nat) (h : WrIs w base g A l) (hb : base ≤ w.heap.size) (hl : l.length ≤ 1000000000000) (hv : v < 4294967296) (hn : n ≤ 32) :
    Calls Tryz.prog 190 #[.pointer (some ⟨g, 0, none⟩), .int .u32 (v : Int), .int .i64 (n : Int)] w fun e w' => e = .returned (.int .i64 0) ∧ WrPost w base g A (l ++ (Bit.low v n).reverse) w' := by
  have hr := hide (right_ok g n w hn)
  have hbit : Hid (∀ (k : Nat) (W : World), k < n → WrPost w base g A (l ++ ((Bit.low v n).reverse.take k)) W → Calls Tryz.prog 184 #[.pointer (some ⟨g, 0, none⟩), .int .u32 ((v / 2 ^ (n - 1 - k) : Nat) : Int)] W fun e w' => e = .returned (.tuple #[]) ∧ WrPost w base g A (l ++ ((Bit.low v n).reverse.take (k + 1))) w') := by
    intro k W hk hp
    obtain ⟨A1, h1, h2, h3⟩ := hp
    refine (bit_any g A1 (l ++ ((Bit.low v n).reverse.take k)) (v / 2 ^ (n - 1 - k)) W base h1 (by have := h2.size; omega) ?_ ?_).mono ?_
    · rw [List.length_append, List.length_take, List.length_reverse, Bit.low_length]; omega
    · exact Nat.lt_of_le_of_lt (Nat.div_le_self _ _) hv
    · rintro e w' ⟨rfl, hq⟩
      refine ⟨rfl, ?_⟩
      have := WrPost.trans h2 h3 hq
      rw [List.append_assoc] at this
      have hlen : k < (Bit.low v n).reverse.length := by rw [List.length_reverse, Bit.low_length]; exact hk
      rw [take_snoc _ k hlen]
      have e : (Bit.low v n).reverse[k]'hlen = (v / 2 ^ (n - 1 - k) % 2 == 1) := by
        rw [List.getElem_reverse]
        simp only [Bit.low_length]
        rw [low_get, Nat.testBit_eq_decide_div_mod_eq, Bool.beq_eq_decide_eq]
      rw [e]
      exact this
  have hp0 : Hid (WrPost w base g A (l ++ ((Bit.low v n).reverse.take 0)) w) := by
    show WrPost w base g A (l ++ ((Bit.low v n).reverse.take 0)) w
    rw [List.take_zero, List.append_nil]
    exact WrPost.refl h
  clear h hl
  go_enter Tryz.func190, Tryz.ntmps190
  go_wp2_with (go_at_call 183; (with_reducible refine hr.out.mono ?_); rintro e w' ⟨rfl, rfl⟩)
  go_loopw [15] (fun i wr => ∃ k : Nat, k ≤ n ∧ i = .int .i64 k ∧ Hid (WrPost w base g A (l ++ ((Bit.low v n).reverse.take k)) wr)) (fun i _ => n - (intOf i).toNat)
  case atStart => exact ⟨0, by omega, rfl, hp0⟩
  case round =>
    obtain ⟨k, hk, rfl, hp⟩ := hrel
    by_cases hlt : k < n
    · have hc := hbit.out k _ hlt hp
      obtain ⟨m, hm⟩ : ∃ m : Nat, n - 1 - k = m := ⟨_, rfl⟩
      rw [hm, show ((v / 2 ^ m : Nat) : Int) = (v : Int) / 2 ^ m from by norm_cast] at hc
      have hmi : (n : Int) - 1 - k = (m : Int) := by omega
      have hc := hide hc
      go_wp2_with (go_at_call 184; (with_reducible refine hc.out.mono ?_); rintro e w5 ⟨rfl, hp5⟩; have hp5 := hide hp5)
      go_roundw
      case rel => exact ⟨k + 1, by omega, by go_num, hp5⟩
      case measure => simp [intOf]; omega
    · obtain rfl : k = n := by omega
      go_wp2
      go_ret
      have hp := hp.out
      rw [List.take_of_length_le (by rw [List.length_reverse, Bit.low_length]; exact Nat.le_refl _)] at hp
      exact ⟨rfl, hp⟩
theorem wbytes_ok (g : Nat) (A : Option Addr) (l : List Bool) (w : World) (base : Nat) (h : WrIs w base g A l) (hl : l.length ≤ 1099511627776) :
    Calls Tryz.prog 133 #[.pointer (some ⟨g, 0, none⟩)] w (Cloned w (Bit.size l.length) (Bit.pack l)) := by
  obtain ⟨c, hk, ho⟩ := h
  have hsz := Bit.size_le l.length
  have c0 : w.cell? ⟨g, 0, none⟩ = some (.slice A (Bit.size l.length) c) := hk.cell 0
  have hc := hide (clone_any A (Bit.size l.length) c (Bit.pack l) w _ ho.rd (Nat.le_refl _) (by omega))
  clear hk ho hsz hl
  generalize Bit.size l.length = m at *
  go_enter Tryz.func133, Tryz.ntmps133
  go_wp2_with (go_at_call 68; (with_reducible refine hc.out.mono ?_); rintro e w5 ⟨A5, c5, rfl, ho5, hb5⟩)
  go_ret
  exact ⟨A5, c5, rfl, ho5, hb5⟩
set_option maxHeartbeats 400000 in
theorem walign_ok (g : Nat) (A : Option Addr) (l : List Bool) (w : World) (base : Nat) (h : WrIs w base g A l) (hl : l.length ≤ 1000000000000) :
    Calls Tryz.prog 162 #[.pointer (some ⟨g, 0, none⟩)] w fun e w' => e = .returned (.int .i64 (Bit.gap l.length : Int)) ∧ WrPost w base g A (l ++ List.replicate (Bit.gap l.length) false) w' := by
  obtain ⟨c, hk, ho⟩ := h
  have c1 : w.cell? ⟨g, 1, none⟩ = some (.int .i64 (l.length : Int)) := hk.cell 1
  have f1 := hk.free 1
  have hg := gap_and l.length (by omega)
  have hgl : Bit.gap l.length ≤ 8 := by unfold Bit.gap; omega
  have hl1 : (l.length : Int) ≤ 1000000000000 := by omega
  have hfin : Hid (∀ n, WrPost w base g A (l ++ List.replicate (Bit.gap l.length) false) ((w.setCell ⟨g, 1, none⟩ (.int .i64 ((l.length : Int) + (Bit.gap l.length : Nat)))).drewN n)) := by
    intro n
    have hch : Chg (fun k => k = g) w ((w.setCell ⟨g, 1, none⟩ (.int .i64 ((l.length : Int) + (Bit.gap l.length : Nat)))).drewN n) := ((Chg.refl (fun k => k = g) w).setCell (p := ⟨g, 1, none⟩) (.inr rfl) _).drewN n
    have hlen : (l ++ List.replicate (Bit.gap l.length) false).length = l.length + Bit.gap l.length := by simp
    have hs : Bit.size (l.length + Bit.gap l.length) = Bit.size l.length := by unfold Bit.size Bit.gap; omega
    refine ⟨A, ⟨c, ?_, ?_⟩, hch.mono (fun _ _ h => .inl h), .inl rfl⟩
    · rw [hlen, hs, show ((l.length + Bit.gap l.length : Nat) : Int) = (l.length : Int) + (Bit.gap l.length : Nat) from by omega]
      exact (hk.set 1 _).drewN n
    · rw [hlen, hs, Bit.pack_pad]
      exact ho.chg hch (by intro k hk' e; rw [e] at hk'; exact ho.ne hk (by decide) hk')
  clear hk ho hl
  generalize Bit.gap l.length = m at *
  go_enter Tryz.func162, Tryz.ntmps162
  go_wp2
  go_ret
  exact ⟨rfl, hfin.out 0⟩
end Go.Proofs.YtaapjampmnanmaaGreat
namespace Go.Proofs.YtaapjampmnanmaaGreat
open Go.RowKit
def RdIs (w : World) (base g : Nat) (A : Option Addr) (bs : List UInt8) (at_ : Nat) : Prop :=
  ∃ c, Blk w g 248 #[.slice A bs.length c, .int .i64 (at_ : Int)] ∧ Ow w base 5 A bs.length c (bs.map bv)
theorem RdIs.moved {w : World} {base g : Nat} {A : Option Addr} {bs : List UInt8} {a : Nat} (h : RdIs w base g A bs a) (b n : Nat) (x : Int) (hx : x = (b : Int)) : RdIs ((w.setCell ⟨g, 1, none⟩ (.int .i64 x)).drewN n) base g A bs b ∧ Chg (fun k => k = g) w ((w.setCell ⟨g, 1, none⟩ (.int .i64 x)).drewN n) := by
  obtain ⟨c, hk, ho⟩ := h
  have hch : Chg (fun k => k = g) w ((w.setCell ⟨g, 1, none⟩ (.int .i64 x)).drewN n) := ((Chg.refl (fun k => k = g) w).setCell (p := ⟨g, 1, none⟩) (.inr rfl) _).drewN n
  refine ⟨⟨c, ?_, ho.chg hch (by intro k hk' e; rw [e] at hk'; exact ho.ne hk (by decide) hk')⟩, hch⟩
  subst hx
  exact (hk.set 1 _).drewN n
theorem RdIs.below {w w' : World} {base g : Nat} {A : Option Addr} {bs : List UInt8} {a : Nat} (h : RdIs w base g A bs a) (hb : Below w.heap.size w w') : RdIs w' base g A bs a := by
  obtain ⟨c, hk, ho⟩ := h
  exact ⟨c, hk.below hb hk.lt, ho.below hb⟩
theorem newreader_any (A : Option Addr) (c : Nat) (bs : List UInt8) (w : World) (B : Nat) (hr : Rd w B A bs.length (bs.map bv)) (hB : B ≤ w.heap.size) (hn : bs.length ≤ 68719476736) :
    Calls Tryz.prog 145 #[.slice A bs.length c] w fun e w' => ∃ g A', e = .returned (.pointer (some ⟨g, 0, none⟩)) ∧ RdIs w' w.heap.size g A' bs 0 ∧ Below w.heap.size w w' ∧ w.heap.size ≤ g := by
  have hc := hide (clone_any A bs.length c bs w B hr hB (by omega))
  clear hr hn
  have hlen : ∃ n, bs.length = n := ⟨_, rfl⟩
  obtain ⟨n, hn⟩ := hlen
  rw [hn] at hc ⊢
  go_enter Tryz.func145, Tryz.ntmps145
  go_wp2_with (go_at_call 68; (with_reducible refine hc.out.mono ?_); rintro e w5 ⟨A5, c5, rfl, ho5, hb5⟩)
  go_ret
  refine ⟨w5.heap.size, A5, rfl, ⟨c5, ?_, ?_⟩, hb5.alloc hb5.size _, hb5.size⟩
  · rw [hn]; exact Blk.new w5 _ _
  · rw [hn]; exact ho5.alloc _
theorem rleft_ok (g : Nat) (A : Option Addr) (bs : List UInt8) (a : Nat) (w : World) (base : Nat) (h : RdIs w base g A bs a) (hn : bs.length ≤ 68719476736) (ha : a ≤ 8 * bs.length) :
    Calls Tryz.prog 205 #[.pointer (some ⟨g, 0, none⟩)] w fun e w' => e = .returned (.int .i64 ((8 * bs.length - a : Nat) : Int)) ∧ ∃ k, w' = w.drewN k := by
  obtain ⟨c, hk, ho⟩ := h
  have c0 : w.cell? ⟨g, 0, none⟩ = some (.slice A bs.length c) := hk.cell 0
  have c1 : w.cell? ⟨g, 1, none⟩ = some (.int .i64 (a : Int)) := hk.cell 1
  clear hk ho
  generalize bs.length = n at *
  go_enter Tryz.func205, Tryz.ntmps205
  go_wp2
  go_region
  go_wp2
  go_ret
  exact ⟨ret_int (by omega), 1, (drewN_one _).symm⟩
theorem rat_ok (g : Nat) (A : Option Addr) (bs : List UInt8) (a : Nat) (w : World) (base : Nat) (h : RdIs w base g A bs a) :
    Calls Tryz.prog 149 #[.pointer (some ⟨g, 0, none⟩)] w fun e w' => e = .returned (.int .i64 (a : Int)) ∧ w = w' := by
  obtain ⟨c, hk, _⟩ := h
  have c1 : w.cell? ⟨g, 1, none⟩ = some (.int .i64 (a : Int)) := hk.cell 1
  clear hk
  go_enter Tryz.func149, Tryz.ntmps149
  go_wp2
  go_ret
  exact ⟨rfl, rfl⟩
set_option maxHeartbeats 400000 in
theorem ralign_ok (g : Nat) (A : Option Addr) (bs : List UInt8) (a : Nat) (w : World) (base : Nat) (h : RdIs w base g A bs a) (ha : a ≤ 1000000000000) :
    Calls Tryz.prog 148 #[.pointer (some ⟨g, 0, none⟩)] w fun e w' => e = .returned (.int .i64 (Bit.gap a : Int)) ∧ RdIs w' base g A bs (a + Bit.gap a) ∧ Chg (fun k => k = g) w w' := by
  have hfin := hide (fun x hx => h.moved (a + Bit.gap a) 0 x hx)
  obtain ⟨c, hk, ho⟩ := h
  have c1 : w.cell? ⟨g, 1, none⟩ = some (.int .i64 (a : Int)) := hk.cell 1
  have f1 := hk.free 1
  have hg := gap_and a (by omega)
  have hgl : Bit.gap a ≤ 8 := by unfold Bit.gap; omega
  have hl1 : (a : Int) ≤ 1000000000000 := by omega
  clear hk ho ha
  generalize Bit.gap a = m at *
  go_enter Tryz.func148, Tryz.ntmps148
  go_wp2
  go_ret
  exact ⟨rfl, hfin.out _ (by omega)⟩
theorem rbits_short (g : Nat) (A : Option Addr) (bs : List UInt8) (a n : Nat) (w : World) (base : Nat) (h : RdIs w base g A bs a) (hl : bs.length ≤ 68719476736) (ha : a ≤ 8 * bs.length) (hn : n ≤ 32) (hs : 8 * bs.length - a < n) :
    Calls Tryz.prog 195 #[.pointer (some ⟨g, 0, none⟩), .int .i64 (n : Int)] w fun e w' => e = .returned (.tuple #[.int .u32 0, .int .i64 2]) ∧ ∃ k, w' = w.drewN k := by
  have hleft := hide (rleft_ok g A bs a w base h hl ha)
  clear h hl ha
  generalize 8 * bs.length - a = m at *
  go_enter Tryz.func195, Tryz.ntmps195
  go_wp2_with (go_at_call 205; (with_reducible refine hleft.out.mono ?_); rintro e w1 ⟨rfl, k1, rfl⟩)
  go_ret2
  exact ⟨rfl, k1, rfl⟩
theorem or_u32 (V k b : Nat) (hk : k < 32) (hV : V < 2 ^ k) (hb : b < 2) : bits .or .u32 (V : Int) ((b : Int) * 2 ^ k % 4294967296) = ((V + 2 ^ k * b : Nat) : Int) := by
  have h2 : 2 ^ (k + 1) ≤ 2 ^ 32 := Nat.pow_le_pow_right (by omega) (by omega)
  rw [Nat.pow_succ] at h2
  have hm : 2 ^ k * b ≤ 2 ^ k * 1 := Nat.mul_le_mul_left _ (by omega)
  rw [show (b : Int) * 2 ^ k = ((2 ^ k * b : Nat) : Int) by push_cast; rw [Int.mul_comm]]
  have e : ((2 ^ k * b : Nat) : Int) % 4294967296 = ((2 ^ k * b : Nat) : Int) := by omega
  rw [e, u32_or_nat V (2 ^ k * b) (by omega) (by omega), Nat.or_comm, nat_join k (2 ^ k * b) V (Nat.mul_mod_right _ _) hV, Nat.add_comm]
theorem and_u8 (q s : Nat) (hq : q < 256) : bits .and .u8 ((q : Int) / 2 ^ s) 1 = (((q.testBit s).toNat : Nat) : Int) := by
  rw [show (q : Int) / 2 ^ s = ((q / 2 ^ s : Nat) : Int) from by norm_cast]
  have h : q / 2 ^ s ≤ q := Nat.div_le_self _ _
  have := u8_and_nat (q / 2 ^ s) 1 (by omega) (by omega)
  rw [nat_mask1] at this
  refine this.trans ?_
  rw [Nat.testBit_eq_decide_div_mod_eq]
  rcases Nat.mod_two_eq_zero_or_one (q / 2 ^ s) with h | h <;> simp [h]
set_option maxHeartbeats 1000000 in
theorem rbits_ok (g : Nat) (A : Option Addr) (bs : List UInt8) (a n : Nat) (w : World) (base : Nat) (h : RdIs w base g A bs a) (hl : bs.length ≤ 68719476736) (hn : n ≤ 32) (ha : a + n ≤ 8 * bs.length) :
    Calls Tryz.prog 195 #[.pointer (some ⟨g, 0, none⟩), .int .i64 (n : Int)] w fun e w' => e = .returned (.tuple #[.int .u32 (Bit.num (((Bit.bitsOf bs).drop a).take n) : Int), .int .i64 0]) ∧ RdIs w' base g A bs (a + n) ∧ Chg (fun k => k = g) w w' := by
  have hleft := hide (rleft_ok g A bs a w base h hl (by omega))
  have hm : n ≤ 8 * bs.length - a := by omega
  have hh := hide h
  have hlh := hide hl
  have hah := hide ha
  clear h hl ha
  go_enter Tryz.func195, Tryz.ntmps195
  generalize 8 * bs.length - a = m at *
  go_wp2_with (go_at_call 205; (with_reducible refine hleft.out.mono ?_); rintro e w1 ⟨rfl, k1, rfl⟩)
  go_loopw [6, 25] (fun v i wr => ∃ k : Nat, k ≤ n ∧ i = .int .i64 k ∧ v = .int .u32 (Bit.num (((Bit.bitsOf bs).drop a).take k) : Int) ∧ Hid (RdIs wr base g A bs (a + k)) ∧ Hid (Chg (fun k => k = g) w wr)) (fun _ i _ => n - (intOf i).toNat)
  case atStart => exact ⟨0, by omega, rfl, by simp [Bit.num], hh.out.below (below_drewN (Below.refl _ w) k1), (Chg.refl _ w).drewN k1⟩
  case round =>
    obtain ⟨k, hk, rfl, rfl, hR, hC⟩ := hrel
    by_cases hlt : k < n
    · have hbl := Bit.bitsOf_length bs
      have hak : a + k < 8 * bs.length := by have := hah.out; omega
      have hlen : (((Bit.bitsOf bs).drop a).take k).length = k := by rw [List.length_take, List.length_drop, hbl]; have := hah.out; omega
      have hV := Bit.num_lt (((Bit.bitsOf bs).drop a).take k)
      rw [hlen] at hV
      have hj : (a + k) / 8 < bs.length := by omega
      have hsucc : Bit.num (((Bit.bitsOf bs).drop a).take (k + 1)) = Bit.num (((Bit.bitsOf bs).drop a).take k) + 2 ^ k * ((bs[(a + k) / 8]'hj).toNat.testBit ((a + k) % 8)).toNat := by
        have hd : k < ((Bit.bitsOf bs).drop a).length := by rw [List.length_drop, hbl]; omega
        rw [take_snoc _ k hd, Bit.num_snoc, hlen, List.getElem_drop, Bit.bitsOf_get bs (a + k) hak]
      obtain ⟨c, hkb, ho⟩ := hR.out
      have c0 : wr.cell? ⟨g, 0, none⟩ = some (.slice A bs.length c) := hkb.cell 0
      have c1 : wr.cell? ⟨g, 1, none⟩ = some (.int .i64 ((a + k : Nat) : Int)) := hkb.cell 1
      have f1 := hkb.free 1
      obtain ⟨ga, rfl, _, _⟩ := ho.pos (by omega)
      have e0 : wr.cell? ⟨ga, (a + k) / 8, none⟩ = some (.int .u8 ((bs[(a + k) / 8]'hj).toNat : Int)) := by
        have hx := ho.cells (g := ga) rfl ((a + k) / 8) (bv bs[(a + k) / 8]) (by rw [List.getElem?_map, List.getElem?_eq_getElem hj]; rfl)
        rwa [Addr.add_mid, Nat.zero_add] at hx
      have hq := toNat_le (bs[(a + k) / 8]'hj)
      have hb2 : ((bs[(a + k) / 8]'hj).toNat.testBit ((a + k) % 8)).toNat < 2 := by cases (bs[(a + k) / 8]'hj).toNat.testBit ((a + k) % 8) <;> decide
      have hand := and_u8 (bs[(a + k) / 8]'hj).toNat ((a + k) % 8) (by omega)
      have hor := or_u32 _ k _ (by omega) hV hb2
      rw [← hsucc] at hor
      have hmv := hide (fun N x hx => hR.out.moved (a + k + 1) N x hx)
      have hbig : a + k < 549755813888 := by have := hlh.out; omega
      clear hbl hak hlen hV hsucc hkb ho
      generalize (bs[(a + k) / 8]'hj).toNat.testBit ((a + k) % 8) = tb at *
      generalize (bs[(a + k) / 8]'hj).toNat = q at *
      generalize hV' : Bit.num (((Bit.bitsOf bs).drop a).take (k + 1)) = V' at *
      have hV'h := hide hV'
      clear hV'
      generalize Bit.num (((Bit.bitsOf bs).drop a).take k) = V at *
      generalize hL : bs.length = L at *
      generalize hM : a + k = M at *
      generalize tb.toNat = b at *
      go_wp2
      go_region
      go_wp2
      go_roundw
      case rel =>
        have hx := hmv.out 1 ((M : Int) + 1) (by omega)
        rw [drewN_one] at hx
        refine ⟨k + 1, by omega, by go_num, by rw [hV'h.out], ?_, ?_⟩
        · refine hide ?_
          have h1 := hx.1
          rw [← Nat.add_assoc, hM]
          simpa using h1
        · refine hide ?_
          have h2 := hC.out.trans hx.2 (fun _ _ h => h)
          simpa using h2
      case measure => simp [intOf]; omega
    · obtain rfl : k = n := by omega
      go_wp2
      go_ret2
      exact ⟨rfl, hR.out, hC.out⟩
end Go.Proofs.YtaapjampmnanmaaGreat
namespace Go.Proofs.YtaapjampmnanmaaGreat
open Go.RowKit
theorem str_of_rd {w : World} {B n : Nat} {A : Option Addr} {bs : List UInt8} (hr : Rd w B A n (bs.map bv)) (c : Nat) :
    (convert 22 9 (.slice A n c)).run Tryz.prog w = .ok (.string ⟨bs.toArray⟩) w := by
  have hl := hr.len
  subst hl
  cases A with
  | none =>
    have h0 : bs = [] := by
      cases bs with
      | nil => rfl
      | cons b t => obtain ⟨_, _, h, _⟩ := hr.2 0 (by simp); cases h
    subst h0
    exact run_convert_bytes_nil w _ _ Tryz.underlying22 Tryz.underlying5 _ _ _ Tryz.underlying9
  | some a =>
    refine run_convert_bytes_back w _ _ _ a c bs Tryz.underlying22 Tryz.underlying5 Tryz.underlying9 ?_
    intro j hj
    obtain ⟨b, o, ha, _, hc⟩ := hr.at hj
    cases ha
    rw [Addr.add_mid, hc]
    simp [bv]
def KeepB (w w' : World) : Prop := ∀ base A n c xs, Ow w base 4 A n c xs → Ow w' base 4 A n c xs
def WrAt (B : Nat) (w : World) (g : Nat) (l : List Bool) : Prop := ∃ A, WrIs w B g A l ∧ B ≤ g ∧ B ≤ w.heap.size
theorem WrAt.below {B g : Nat} {w w' : World} {l : List Bool} (h : WrAt B w g l) (hb : Below w.heap.size w w') : WrAt B w' g l := by
  obtain ⟨A, ⟨c, hk, ho⟩, h2, h3⟩ := h
  exact ⟨A, ⟨c, hk.below hb hk.lt, ho.below hb⟩, h2, Nat.le_trans h3 hb.size⟩
theorem wr_step {B g : Nat} {A : Option Addr} {w w' : World} {l l' : List Bool} (h : WrIs w B g A l) (hg : B ≤ g) (hB : B ≤ w.heap.size) (hp : WrPost w B g A l' w') :
    WrAt B w' g l' ∧ Below B w w' ∧ KeepB w w' := by
  obtain ⟨A', h1, h2, _⟩ := hp
  obtain ⟨c, hk, ho⟩ := h
  refine ⟨⟨A', h1, hg, Nat.le_trans hB h2.size⟩, h2.to_below hB ?_, ?_⟩
  · rintro k (rfl | hk')
    · exact hg
    · exact (ho.blk_lt k hk').1
  · intro base A2 n c2 xs hx
    refine hx.chg h2 ?_
    rintro k hk' (rfl | hr)
    · exact hx.ne hk (by decide) hk'
    · exact hx.ne_ow ho (by decide) k hk' hr
theorem atbytes {B g : Nat} {w : World} {l : List Bool} (h : WrAt B w g l) (hl : l.length ≤ 1000000000000) :
    Calls Tryz.prog 133 #[.pointer (some ⟨g, 0, none⟩)] w (Cloned w (Bit.size l.length) (Bit.pack l)) := by
  obtain ⟨A, h1, h2, h3⟩ := h
  exact wbytes_ok g A l w B h1 (by omega)
theorem newwriter_at (w : World) : Calls Tryz.prog 130 #[] w fun e w' => e = .returned (.pointer (some ⟨w.heap.size, 0, none⟩)) ∧ WrAt w.heap.size w' w.heap.size [] ∧ Below w.heap.size w w' := by
  refine (newwriter_any w).mono ?_
  rintro e w' ⟨he, h1, hb⟩
  exact ⟨he, ⟨none, h1, Nat.le_refl _, hb.size⟩, hb⟩
end Go.Proofs.YtaapjampmnanmaaGreat
namespace Go.Proofs.YtaapjampmnanmaaGreat
open Go.RowKit
def KeepX (w w' : World) : Prop :=
  w.heap.size ≤ w'.heap.size ∧ ∀ (k : Nat) (cs : Array Value) (t : TypeId) (fz : Nat × Nat), w.heap[k]? = some (.cells cs t fz) → t ≠ 232 → t ≠ 248 → t ≠ 5 → w'.heap[k]? = some (.cells cs t fz)
theorem KeepX.trans {a b c : World} (h : KeepX a b) (k : KeepX b c) : KeepX a c := ⟨Nat.le_trans h.1 k.1, fun i cs t fz x h1 h2 h3 => k.2 i cs t fz (h.2 i cs t fz x h1 h2 h3) h1 h2 h3⟩
theorem KeepX.below {w w' : World} (h : Below w.heap.size w w') : KeepX w w' := ⟨h.size, fun k _ _ _ x _ _ _ => (h.block k (lt_of_block x)).trans x⟩
theorem KeepX.row {w w' : World} (h : KeepX w w') {g : Nat} {t : TypeId} {cs : Array Value} (hk : Blk w g t cs) (h1 : t ≠ 232) (h2 : t ≠ 248) (h3 : t ≠ 5) : Blk w' g t cs := h.2 g cs t (0, 0) hk h1 h2 h3
theorem KeepX.ow {w w' : World} (h : KeepX w w') {base n c : Nat} {e : TypeId} {A : Option Addr} {xs : List Value} (ho : Ow w base e A n c xs) (h1 : e ≠ 232) (h2 : e ≠ 248) (h3 : e ≠ 5) : Ow w' base e A n c xs := by
  refine ⟨ho.1, ?_⟩
  rcases ho.2 with h0 | ⟨g, cap, cur, hv, hb, hh, r⟩
  · exact .inl h0
  · exact .inr ⟨g, cap, cur, hv, hb, h.2 g cur e (0, 0) hh h1 h2 h3, r⟩
theorem KeepX.wr {B g : Nat} {A : Option Addr} {w w' : World} {l l' : List Bool} (h : WrIs w B g A l) (hp : WrPost w B g A l' w') : KeepX w w' := by
  obtain ⟨A', _, h2, _⟩ := hp
  obtain ⟨c, hk, ho⟩ := h
  refine ⟨h2.size, fun k cs t fz x t1 _ t3 => (h2.block k (lt_of_block x) ?_).trans x⟩
  rintro (rfl | hr)
  · unfold Blk at hk
    rw [hk] at x
    injection x with x
    injection x with _ ht
    exact t1 ht.symm
  · rcases ho.2 with ⟨hv, _⟩ | ⟨g', cap, cur, hv, _, hh, _⟩
    · injection hv with e1
      rw [e1] at hr
      simp [blk] at hr
    · injection hv with e1
      rw [e1] at hr
      have : g' = k := by simpa [blk] using hr
      subst this
      rw [hh] at x
      injection x with x
      injection x with _ ht
      exact t3 ht.symm
theorem KeepX.rd {B g a : Nat} {A : Option Addr} {w w' : World} {bs : List UInt8} (h : RdIs w B g A bs a) (h2 : Chg (fun k => k = g) w w') : KeepX w w' := by
  obtain ⟨c, hk, ho⟩ := h
  refine ⟨h2.size, fun k cs t fz x _ t2 _ => (h2.block k (lt_of_block x) ?_).trans x⟩
  rintro rfl
  unfold Blk at hk
  rw [hk] at x
  injection x with x
  injection x with _ ht
  exact t2 ht.symm
theorem xtalign {B g : Nat} {w : World} {l : List Bool} (h : WrAt B w g l) (hl : l.length ≤ 1000000000000) :
    Calls Tryz.prog 162 #[.pointer (some ⟨g, 0, none⟩)] w fun e w' => e = .returned (.int .i64 (Bit.gap l.length : Int)) ∧ WrAt B w' g (l ++ List.replicate (Bit.gap l.length) false) ∧ Below B w w' ∧ KeepX w w' := by
  obtain ⟨A, h1, h2, h3⟩ := h
  refine (walign_ok g A l w B h1 hl).mono ?_
  rintro e w' ⟨he, hp⟩
  exact ⟨he, (wr_step h1 h2 h3 hp).1, (wr_step h1 h2 h3 hp).2.1, KeepX.wr h1 hp⟩
end Go.Proofs.YtaapjampmnanmaaGreat
namespace Go.Proofs.YtaapjampmnanmaaGreat
open Go.RowKit
end Go.Proofs.YtaapjampmnanmaaGreat
