/- Layer 13 (arch): a part of an archive unpacked, and a directory read, by the program and by the reference, by value. The conditions: where the bytes lie, and how many they are. -/
import Derived.Test.YtaapjampmnanmaaArchTl
import Derived.Test.YtaapjampmnanmaaDirGet
import Derived.Test.YtaapjampmnanmaaDirRGet
import Derived.Test.YtaapjampmnanmaaDirLive
import Derived.Deep.DeepCutAuto
namespace Go.Proofs.Ytaapjampmnanmaa
open Go.RowKit Go.Shelf
set_option linter.unusedVariables false
set_option linter.unusedSimpArgs false

/-- What unpacking returns: nothing and the error, or bytes that can be read. -/
def UnP (w : World) (r : Sum Nat (List UInt8)) (e : Ending) (w' : World) : Prop :=
  Below w.heap.size w w' ∧ ((∃ er, r = .inl er ∧ 1 ≤ er ∧ e = .returned (.tuple #[.slice none 0 0, .int .i64 (er : Int)])) ∨
    (∃ o A c, r = .inr o ∧ e = .returned (.tuple #[.slice A o.length c, .int .i64 0]) ∧ Rd w' w'.heap.size A o.length (o.map bv)))
theorem Ar.part_rd {w : World} {B k : Nat} {A : Option Addr} {bs : List UInt8} (h : Rd w B A k (bs.map bv)) {a n : Nat} (hw : a + n ≤ k) : Rd w B (Option.map (fun x => x.add a) A) n ((Ar.part bs a n).map bv) := by
  have := h.sub a n hw
  unfold Ar.part
  simpa using this
theorem Ar.part_rd0 {w : World} {B k : Nat} {A : Option Addr} {bs : List UInt8} (h : Rd w B A k (bs.map bv)) {a n : Nat} (hn : n = 0) : Rd w B A n ((Ar.part bs a n).map bv) := by
  have := h.none0 a n hn
  unfold Ar.part
  simpa using this

theorem Ar.unpack_in {bs : List UInt8} {a n : Nat} (pk : Int) (hm : bs.length ≤ 1048576) (hw : Within a n bs.length) : Ar.unpack bs a n pk = if pk = 1 then .inr (Ar.part bs a n) else Gz.all (8 * n + 1) 1048576 (n + 1) [] (Ar.part bs a n) := by
  unfold Ar.unpack
  rw [if_pos hw]
  split
  · rw [if_neg (by unfold Within at hw; omega)]
  · rfl

set_option maxHeartbeats 1000000 in
theorem unpack_any (A : Option Addr) (c : Nat) (bs : List UInt8) (a n : Nat) (pk : Int) (w : World) (hr : Rd w w.heap.size A bs.length (bs.map bv)) (hc : bs.length ≤ c) (hm : bs.length ≤ 1048576) :
    Calls Try.prog 31 #[.slice A bs.length c, .int .u64 (a : Int), .int .u64 (n : Int), .int .i64 pk] w (UnP w (Ar.unpack bs a n pk)) := by
  have hwt := hide (within_any a n bs.length w (by omega))
  have hL : IntKind.u64.wrap (bs.length : Int) = (bs.length : Int) := by rw [IntKind.wrap_u64]; omega
  have hL' : (bs.length : Int) % 18446744073709551616 = (bs.length : Int) := by omega
  by_cases hw : Within a n bs.length
  · have hun := Ar.unpack_in pk hm hw
    have hl := Ar.part_len hw
    have hd : decide (Within a n bs.length) = true := decide_eq_true hw
    rw [hd] at hwt
    have han : a + n ≤ bs.length := by have h1 := hw.1; have h2 := hw.2; omega
    have hW : IntKind.u64.wrap ((a : Int) + (n : Int)) = ((a + n : Nat) : Int) := by rw [IntKind.wrap_u64]; omega
    have hM : ((a : Int) + (n : Int)) % 18446744073709551616 = ((a + n : Nat) : Int) := by omega
    have hacI : (a : Int) ≤ ((a + n : Nat) : Int) := by omega
    have hncI : ((a + n : Nat) : Int) ≤ (c : Int) := by omega
    have hnI : (n : Int) ≤ 1048576 := by omega
    have hrA := hide (Ar.part_rd hr han)
    have hrB := hide (fun (h0 : n = 0) => Ar.part_rd0 (a := a) hr h0)
    obtain ⟨N, hN⟩ : ∃ N, bs.length = N := ⟨_, rfl⟩
    obtain ⟨ps, hps⟩ : ∃ ps, Ar.part bs a n = ps := ⟨_, rfl⟩
    rw [hps] at hl hrA hrB hun
    have han' := hide (show a + n ≤ c by omega)
    have hn' := hide (show n ≤ 1048576 by omega)
    rw [hN] at hwt hL hL' ⊢
    clear hr hc han hm hN hw hd hps
    by_cases hp : pk = 1
    · subst hp
      rw [hun, if_pos rfl]
      clear hun
      go_enter Try.func31, Try.ntmps31
      go_wp2_with (first
        | (go_at_call 30; (with_reducible refine hwt.out.mono ?_); rintro e w' ⟨rfl, rfl⟩)
        | (go_at_call 42; (with_reducible refine (clone_any _ n _ ps w _ hrA.out (Nat.le_refl _) (by have := hn'.out; omega)).mono ?_); rintro e w2 ⟨A2, c2, rfl, ho2, hb2⟩; replace ho2 := hide ho2; replace hb2 := hide hb2)
        | (go_at_call 42; (with_reducible refine (clone_any A n _ ps w _ (hrB.out (by have := han'.out; omega)) (Nat.le_refl _) (by have := hn'.out; omega)).mono ?_); rintro e w2 ⟨A2, c2, rfl, ho2, hb2⟩; replace ho2 := hide ho2; replace hb2 := hide hb2))
      all_goals
        go_ret2
        rw [← hl] at ho2 ⊢
        exact ⟨hb2.out, .inr ⟨ps, A2, c2, rfl, rfl, ho2.out.rd⟩⟩
    · rw [hun, if_neg hp]
      clear hun
      obtain ⟨R, hR⟩ : ∃ R, Gz.all (8 * n + 1) 1048576 (n + 1) [] ps = R := ⟨_, rfl⟩
      have hrC : Rd w w.heap.size (if c = a then A else Option.map (fun x => x.add a) A) n (ps.map bv) := by
        split
        · exact hrB.out (by have := han'.out; omega)
        · exact hrA.out
      have hu1 := hide (show Calls Try.prog 58 #[.slice (if c = a then A else Option.map (fun x => x.add a) A) n (c - a), .int .i64 1048576] w (UnPost w (Gz.all (8 * n + 1) 1048576 (n + 1) [] ps)) from
        unwrap_any _ n (c - a) 1048576 (8 * n + 1) (n + 1) ps w hrC (by have := han'.out; omega) hn'.out (Nat.le_refl _) (by omega) (by omega))
      rw [hR] at hu1 ⊢
      replace hrC := hide hrC
      clear hR
      go_enter Try.func31, Try.ntmps31
      go_wp2_with (first
        | (go_at_call 30; (with_reducible refine hwt.out.mono ?_); rintro e w' ⟨rfl, rfl⟩)
        | (go_at_call 58; (with_reducible refine hu1.out.mono ?_); rintro e w2 ⟨hb2, ⟨er, h1, h2, rfl⟩ | ⟨o, A2, c2, h1, rfl, ho2⟩⟩; all_goals replace hb2 := hide hb2))
      all_goals
        go_ret2
        first
          | exact ⟨hb2.out, .inl ⟨er, (by first | exact h1 | rfl), h2, rfl⟩⟩
          | exact ⟨hb2.out, .inr ⟨o, A2, c2, (by first | exact h1 | rfl), rfl, ho2.rd⟩⟩
  · have hun : Ar.unpack bs a n pk = .inl 8 := by unfold Ar.unpack; rw [if_neg hw]
    have hd : decide (Within a n bs.length) = false := decide_eq_false hw
    rw [hun]
    rw [hd] at hwt
    obtain ⟨N, hN⟩ : ∃ N, bs.length = N := ⟨_, rfl⟩
    rw [hN] at hwt hL hL' ⊢
    clear hr hc hm hN hw hd hun
    go_enter Try.func31, Try.ntmps31
    go_wp2_with (go_at_call 30; (with_reducible refine hwt.out.mono ?_); rintro e w' ⟨rfl, rfl⟩)
    go_ret2
    exact ⟨Below.refl _ _, .inl ⟨8, rfl, by omega, rfl⟩⟩

/-- What reading a directory returns: the entries, and the error. -/
def DirP (B : Nat) (w : World) (r : List Ent × Nat) (e : Ending) (w' : World) : Prop :=
  Below B w w' ∧ ∃ A c, e = .returned (.tuple #[.slice A r.1.length c, .int .i64 (r.2 : Int)]) ∧ RdE w' w'.heap.size A r.1 ∧ (r.2 = 0 → RightE r.1)

set_option maxHeartbeats 1000000 in
theorem adir_any (A : Option Addr) (c : Nat) (bs : List UInt8) (h : Hd) (a n : Nat) (w : World) (hr : Rd w w.heap.size A bs.length (bs.map bv)) (hc : bs.length ≤ c) (hm : bs.length ≤ 1048576) (r : List Ent × Nat) (hd : DirR bs h.inn a n r) :
    Calls Try.prog 35 #[.slice A bs.length c, .agg h.cells, .int .u64 (a : Int), .int .u64 (n : Int)] w (DirP w.heap.size w r) := by
  obtain ⟨G, hG⟩ : ∃ G, w.heap.size = G := ⟨_, rfl⟩
  obtain ⟨w1, hw1⟩ : ∃ W, w.alloc (.cells h.cells 49) = W := ⟨_, rfl⟩
  have hk1 := hide (show Blk w1 G 49 h.cells from by rw [← hw1, ← hG]; exact Blk.new w _ _)
  have hb1 := hide (show Below G w w1 from by rw [← hw1, ← hG]; exact (Below.refl _ w).alloc (Nat.le_refl _) _)
  have hs1 := hide (show w1.heap.size = G + 1 from by rw [← hw1, ← hG]; simp)
  have hc1 : w1.cell? ⟨G, 12, none⟩ = some (.int .i64 h.inn) := by
    have := hk1.out.cell 12
    rw [show h.cells[12]? = some (.int .i64 h.inn) from rfl] at this
    exact this
  rw [hG] at hr
  have hu := hide (unpack_any A c bs a n h.inn w1 ((hr.below hb1.out).mono (by rw [hs1.out]; omega)) hc hm)
  obtain ⟨R, hR⟩ : ∃ R, Ar.unpack bs a n h.inn = R := ⟨_, rfl⟩
  rw [hR] at hu
  have hd1 := hide (fun e (he : R = .inl e) => hd.1 e (hR.trans he))
  have hd2 := hide (fun d (he : R = .inr d) => (⟨hd.2 d (hR.trans he), Ar.unpack_len (hR.trans he)⟩ : GetR d r ∧ d.length ≤ 1048576))
  rw [hG]
  clear hR hd hr hc hm
  go_enter Try.func35, Try.ntmps35
  go_wp2_with (first
    | (go_at_call 31; (with_reducible refine hu.out.mono ?_); rintro e w2 ⟨hb2, ⟨er, h1, h2, rfl⟩ | ⟨o, A2, c2, h1, rfl, ho2⟩⟩; all_goals replace hb2 := hide hb2)
    | (go_at_call 59; (with_reducible refine (dget_any A2 c2 o w2 ho2 (hd2.out o h1).2 r (hd2.out o h1).1).mono ?_); rintro e w3 ⟨A3, c3, rfl, ho3, hb3⟩; replace hb3 := hide hb3))
  all_goals go_ret2
  · obtain rfl := hd1.out er h1
    exact ⟨hb1.out.trans (hb2.out.mono (by rw [hs1.out]; omega)), none, 0, rfl, fun j hj => absurd hj (Nat.not_lt_zero _), fun h0 => by have h0 : er = 0 := h0; omega⟩
  · exact ⟨(hb1.out.trans (hb2.out.mono (by rw [hs1.out]; omega))).trans (hb3.out.mono (by have := hb2.out.size; have := hs1.out; omega)), A3, c3, rfl, ho3.rd, (hd2.out o h1).1.right⟩

end Go.Proofs.Ytaapjampmnanmaa
