/- Layer 13 (arch): parse's small functions: a word, half a word, a pair, a point. The conditions: where parse's variables lie. -/
import Derived.Test.YtmpdoileiniijaaArchNum
import Derived.Deep.RegionWith
namespace Go.Proofs.Ytmpdoileiniijaa
open Go.RowKit

/-- parse's variables: the bytes, the function that reads a number. -/
structure Ps (w : World) (B gb gn : Nat) (A : Option Addr) (c : Nat) (bs : List UInt8) : Prop where
  kb : Blk w gb 22 #[.slice A bs.length c]
  kn : Blk w gn 81 #[.func (.func 47) #[] #[.pointer (some ⟨gb, 0, none⟩)]]
  rd : Rd w B A bs.length (bs.map bv)
theorem word_any (A : Option Addr) (c : Nat) (bs : List UInt8) (p gb gn : Nat) (w : World) (B : Nat) (h : Ps w B gb gn A c bs) (hp : p + 8 ≤ bs.length) (hl : bs.length ≤ 4194304) :
    Calls Try.prog 48 #[.int .i64 (p : Int), .pointer (some ⟨gn, 0, none⟩)] w fun e w' => e = .returned (.int .u64 ((num bs p 8 : Nat) : Int)) ∧ w = w' := by
  have hq := hide (show Calls Try.prog 47 #[.int .i64 (p : Int), .int .i64 8, .pointer (some ⟨gb, 0, none⟩)] w _ from pnumber_any A c bs p 8 gb w B h.kb h.rd hp (by decide) hl)
  have c0 : w.cell? ⟨gn, 0, none⟩ = some (.func (.func 47) #[] #[.pointer (some ⟨gb, 0, none⟩)]) := h.kn.cell 0
  generalize num bs p 8 = N at *
  clear h hp hl
  go_enter Try.func48, Try.ntmps48
  go_wp2_with (go_at_call 47; (with_reducible refine hq.out.mono ?_); rintro e w' ⟨rfl, rfl⟩)
  go_ret
  exact ⟨rfl, rfl⟩

theorem sg_wrap (bs : List UInt8) (p : Nat) : IntKind.i32.wrap ((num bs p 4 : Nat) : Int) = sg bs p ∧ -2147483648 ≤ sg bs p ∧ sg bs p ≤ 2147483647 := by
  have h1 := num_lt bs p 4
  have h2 : (256 : Nat) ^ 4 = 4294967296 := by decide
  rw [IntKind.wrap_i32]
  unfold sg
  split <;> omega
theorem half_any (A : Option Addr) (c : Nat) (bs : List UInt8) (p gb gn : Nat) (w : World) (B : Nat) (h : Ps w B gb gn A c bs) (hp : p + 4 ≤ bs.length) (hl : bs.length ≤ 4194304) :
    Calls Try.prog 49 #[.int .i64 (p : Int), .pointer (some ⟨gn, 0, none⟩)] w fun e w' => e = .returned (.int .i64 (sg bs p)) ∧ w = w' := by
  have hq := hide (show Calls Try.prog 47 #[.int .i64 (p : Int), .int .i64 4, .pointer (some ⟨gb, 0, none⟩)] w _ from pnumber_any A c bs p 4 gb w B h.kb h.rd hp (by decide) hl)
  have c0 : w.cell? ⟨gn, 0, none⟩ = some (.func (.func 47) #[] #[.pointer (some ⟨gb, 0, none⟩)]) := h.kn.cell 0
  obtain ⟨h1, h2, h3⟩ := sg_wrap bs p
  generalize num bs p 4 = N at *
  generalize sg bs p = z at *
  have h4 : IntKind.i64.wrap z = z := by rw [IntKind.wrap_i64]; omega
  clear h hp hl h2 h3
  go_enter Try.func49, Try.ntmps49
  go_wp2_with (go_at_call 47; (with_reducible refine hq.out.mono ?_); rintro e w' ⟨rfl, rfl⟩)
  go_ret
  exact ⟨rfl, rfl⟩

theorem Ps.alloc {w : World} {B gb gn : Nat} {A : Option Addr} {c : Nat} {bs : List UInt8} (h : Ps w B gb gn A c bs) (hB : B ≤ w.heap.size) (o : Obj) : Ps (w.alloc o) B gb gn A c bs := ⟨h.kb.alloc o, h.kn.alloc o, h.rd.alloc hB o⟩
set_option maxRecDepth 100000 in
set_option maxHeartbeats 4000000 in
theorem pair_any (A : Option Addr) (c : Nat) (bs : List UInt8) (p gb gn gw : Nat) (w : World) (B : Nat) (h : Ps w B gb gn A c bs) (hB : B ≤ w.heap.size) (hw : Blk w gw 82 #[.func (.func 48) #[] #[.pointer (some ⟨gn, 0, none⟩)]]) (hp : p + 16 ≤ bs.length) (hl : bs.length ≤ 4194304) :
    Calls Try.prog 50 #[.int .i64 (p : Int), .pointer (some ⟨gw, 0, none⟩)] w fun e w' => e = .returned (.agg #[.int .u64 ((num bs p 8 : Nat) : Int), .int .u64 ((num bs (p + 8) 8 : Nat) : Int)]) ∧ Below w.heap.size w w' := by
  obtain ⟨w1, hw1⟩ : ∃ W, w.alloc (.cells #[.int .u64 0, .int .u64 0] 24) = W := ⟨_, rfl⟩
  have h1 : Ps w1 B gb gn A c bs := by rw [← hw1]; exact h.alloc hB _
  have q1 := hide (word_any A c bs p gb gn w1.drew B ⟨h1.kb.drew, h1.kn.drew, h1.rd⟩ (by omega) hl)
  have q2 := hide (word_any A c bs (p + 8) gb gn w1.drew B ⟨h1.kb.drew, h1.kn.drew, h1.rd⟩ (by omega) hl)
  have c0 : w1.drew.cell? ⟨gw, 0, none⟩ = some (.func (.func 48) #[] #[.pointer (some ⟨gn, 0, none⟩)]) := by rw [← hw1]; exact (hw.alloc _).drew.cell 0
  obtain ⟨G, hG⟩ : ∃ G, w.heap.size = G := ⟨_, rfl⟩
  obtain ⟨p8, hp8⟩ : ∃ p8, p + 8 = p8 := ⟨_, rfl⟩
  have hpI : (p : Int) + 8 = (p8 : Int) := by omega
  have hpW : IntKind.i64.wrap ((p : Int) + 8) = (p8 : Int) := by rw [IntKind.wrap_i64]; omega
  have hpW2 : IntKind.i64.wrap (p8 : Int) = (p8 : Int) := by rw [IntKind.wrap_i64]; omega
  have hk : Blk w1 G 24 #[.int .u64 0, .int .u64 0] := by rw [← hw1, ← hG]; exact Blk.new w _ _
  have hb1 : Below G w w1 := by rw [← hw1, ← hG]; exact (Below.refl _ w).alloc (Nat.le_refl _) _
  rw [hp8] at q2 ⊢
  generalize num bs p 8 = N1 at *
  generalize num bs p8 8 = N2 at *
  rw [hG]
  replace hb1 := hide hb1
  clear hk h h1 hp hl hB hw hp8
  go_enter Try.func50, Try.ntmps50
  subst hG
  subst hw1
  go_wp2
  go_region_with (first
    | (go_at_call 48; (with_reducible refine q1.out.mono ?_); rintro e w' ⟨rfl, rfl⟩)
    | (go_at_call 48; (with_reducible refine q2.out.mono ?_); rintro e w' ⟨rfl, rfl⟩))
  all_goals go_wp2
  all_goals exact bodyPost_ret_by (results_cell_row rfl _ _ w.heap.size 24 #[.int .u64 (N1 : Int), .int .u64 (N2 : Int)] (0, 0) _ rfl (Blk.drew (Blk.new w 24 #[.int .u64 (N1 : Int), .int .u64 (N2 : Int)])) Try.underlying24 rfl (by kernel_rfl)) rfl ⟨rfl, ((Below.refl _ w).alloc (Nat.le_refl _) _).trans ⟨rfl, rfl, rfl, Nat.le_refl _, fun _ _ => rfl⟩⟩

set_option maxRecDepth 100000 in
set_option maxHeartbeats 4000000 in
theorem point_any (A : Option Addr) (c : Nat) (bs : List UInt8) (p gb gn gw : Nat) (w : World) (B : Nat) (h : Ps w B gb gn A c bs) (hB : B ≤ w.heap.size) (hw : Blk w gw 83 #[.func (.func 49) #[] #[.pointer (some ⟨gn, 0, none⟩)]]) (hp : p + 8 ≤ bs.length) (hl : bs.length ≤ 4194304) :
    Calls Try.prog 51 #[.int .i64 (p : Int), .pointer (some ⟨gw, 0, none⟩)] w fun e w' => e = .returned (.agg #[.int .i64 (sg bs p), .int .i64 (sg bs (p + 4))]) ∧ Below w.heap.size w w' := by
  obtain ⟨w1, hw1⟩ : ∃ W, w.alloc (.cells #[.int .i64 0, .int .i64 0] 27) = W := ⟨_, rfl⟩
  have h1 : Ps w1 B gb gn A c bs := by rw [← hw1]; exact h.alloc hB _
  have q1 := hide (half_any A c bs p gb gn w1.drew B ⟨h1.kb.drew, h1.kn.drew, h1.rd⟩ (by omega) hl)
  have q2 := hide (half_any A c bs (p + 4) gb gn w1.drew B ⟨h1.kb.drew, h1.kn.drew, h1.rd⟩ (by omega) hl)
  have c0 : w1.drew.cell? ⟨gw, 0, none⟩ = some (.func (.func 49) #[] #[.pointer (some ⟨gn, 0, none⟩)]) := by rw [← hw1]; exact (hw.alloc _).drew.cell 0
  obtain ⟨G, hG⟩ : ∃ G, w.heap.size = G := ⟨_, rfl⟩
  obtain ⟨p8, hp8⟩ : ∃ p8, p + 4 = p8 := ⟨_, rfl⟩
  have hpI : (p : Int) + 4 = (p8 : Int) := by omega
  have hpW : IntKind.i64.wrap ((p : Int) + 4) = (p8 : Int) := by rw [IntKind.wrap_i64]; omega
  have hpW2 : IntKind.i64.wrap (p8 : Int) = (p8 : Int) := by rw [IntKind.wrap_i64]; omega
  have hk : Blk w1 G 27 #[.int .i64 0, .int .i64 0] := by rw [← hw1, ← hG]; exact Blk.new w _ _
  have hb1 : Below G w w1 := by rw [← hw1, ← hG]; exact (Below.refl _ w).alloc (Nat.le_refl _) _
  rw [hp8] at q2 ⊢
  generalize sg bs p = N1 at *
  generalize sg bs p8 = N2 at *
  rw [hG]
  replace hb1 := hide hb1
  clear hk h h1 hp hl hB hw hp8
  go_enter Try.func51, Try.ntmps51
  subst hG
  subst hw1
  go_wp2
  go_region_with (first
    | (go_at_call 49; (with_reducible refine q1.out.mono ?_); rintro e w' ⟨rfl, rfl⟩)
    | (go_at_call 49; (with_reducible refine q2.out.mono ?_); rintro e w' ⟨rfl, rfl⟩))
  all_goals go_wp2
  all_goals exact bodyPost_ret_by (results_cell_row rfl _ _ w.heap.size 27 #[.int .i64 N1, .int .i64 N2] (0, 0) _ rfl (Blk.drew (Blk.new w 27 #[.int .i64 N1, .int .i64 N2])) Try.underlying27 rfl (by kernel_rfl)) rfl ⟨rfl, ((Below.refl _ w).alloc (Nat.le_refl _) _).trans ⟨rfl, rfl, rfl, Nat.le_refl _, fun _ _ => rfl⟩⟩

end Go.Proofs.Ytmpdoileiniijaa
