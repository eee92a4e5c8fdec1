/- Layer 13 (arch): the program's Head of any bytes. The conditions: where the slice lies; what Right says of the header. -/
import Derived.Test.YtaapjampmnanmaaArchHd
import Derived.Test.YtaapjampmnanmaaArchRight
import Derived.Test.YtaapjampmnanmaaArchPH
namespace Go.Proofs.Ytaapjampmnanmaa
open Go.RowKit

theorem str13 {w : World} {B n : Nat} {A : Option Addr} {bs : List UInt8} (hr : Rd w B A n (bs.map bv)) (c : Nat) :
    (convert 40 9 (.slice A n c)).run Try.prog w = .ok (.string ⟨bs.toArray⟩) w := by
  have hl := hr.len
  subst hl
  cases A with
  | none =>
    have h0 : bs = [] := by
      cases bs with
      | nil => rfl
      | cons b t => obtain ⟨_, _, h, _⟩ := hr.2 0 (by simp); cases h
    subst h0
    exact run_convert_bytes_nil w _ _ Try.underlying40 Try.underlying5 _ _ _ Try.underlying9
  | some a =>
    refine run_convert_bytes_back w _ _ _ a c bs Try.underlying40 Try.underlying5 Try.underlying9 ?_
    intro j hj
    obtain ⟨g, o, ha, _, hc⟩ := hr.2 j (by simpa using hj)
    injection ha with ha
    subst ha
    rw [Addr.add_mid, hc, List.getElem?_map, List.getElem?_eq_getElem hj]
    rfl
theorem toList_loop (bs : ByteArray) : ∀ (n i : Nat) (r : List UInt8), bs.size - i = n → ByteArray.toList.loop bs i r = r.reverse ++ bs.data.toList.drop i := by
  have hsz : bs.size = bs.data.toList.length := rfl
  intro n
  induction n with
  | zero =>
    intro i r h
    unfold ByteArray.toList.loop
    rw [if_neg (by omega)]
    rw [List.drop_eq_nil_of_le (by omega), List.append_nil]
  | succ n ih =>
    intro i r h
    unfold ByteArray.toList.loop
    rw [if_pos (by omega), ih (i+1) _ (by omega)]
    have hi : i < bs.data.toList.length := by omega
    rw [List.drop_eq_getElem_cons hi, List.reverse_cons, List.append_assoc]
    have hg : bs.get! i = bs.data.toList[i] := by
      show bs.data[i]! = _
      rw [getElem!_pos bs.data i (by simpa using hi)]
      simp
    rw [hg]
    rfl
theorem toList_data (bs : ByteArray) : bs.toList = bs.data.toList := by
  unfold ByteArray.toList
  rw [toList_loop bs _ 0 [] rfl]
  rfl
theorem Rd.take {w : World} {B n : Nat} {A : Option Addr} {xs : List Value} (h : Rd w B A n xs) (k : Nat) (hk : k ≤ n) : Rd w B A k (xs.take k) :=
  ⟨by rw [List.length_take, h.1]; omega, fun j hj => by
    obtain ⟨b, o, e, hb, hc⟩ := h.2 j (by omega)
    exact ⟨b, o, e, hb, by rw [hc, List.getElem?_take, if_pos hj]⟩⟩
theorem results_hd {P : Program} {fn : Func} {p u : Tmp} {ty : TypeId} (h : fn.results = #[.cell p ty, .tmp u]) (tmps : Array Value) (w : World) (g : Nat) (t : TypeId) (cs : Array Value) (fr : Nat × Nat) (d : TypeDesc)
    (hp : tmps.getD p undef = .pointer (some ⟨g, 0, none⟩)) (hg : w.heap[g]? = some (.cells cs t fr))
    (hu : P.underlying ty = some d) (hd : (match d with | .struct _ | .array _ _ => true | _ => false) = true) (hi : (P.info? ty).map (·.size) = some cs.size) :
    (results fn tmps).run P w = .ok (.tuple #[.agg cs, tmps.getD u undef]) w := by
  rw [results_cell_tmp h]
  have hp' : tmps[p]?.getD undef = .pointer (some ⟨g, 0, none⟩) := by simpa using hp
  simp [asAddr, hp', run_loadVar_row w g t ty cs fr d hg hu hd hi]

theorem Hd.size (h : Hd) : h.cells.size = 24 := rfl
theorem Hd.one (h : Hd) : h.cells.all (·.oneCell') = true := by simp [Hd.cells, Value.oneCell']
/-- The bytes say that they are an archive. -/
def Magic (bs : List UInt8) : Prop := bs.take 8 = mag ∧ byt bs 96 ≤ 1
instance (bs : List UInt8) : Decidable (Magic bs) := inferInstanceAs (Decidable (_ ∧ _))
/-- What Head answers, r being what Right says. -/
def headV (bs : List UInt8) (r : Int) : Hd × Int :=
  if 4194304 < bs.length then (Hd.zero, 5) else if bs.length < 127 then (Hd.zero, 2) else if Magic bs then (if r = 0 then (headOf bs, 0) else (Hd.zero, r)) else (Hd.zero, 3)

theorem z24info : (Try.prog.info? 49).map (·.size) = some (#[.int .u64 0, .int .u64 0, .int .u64 0, .int .u64 0, .int .u64 0, .int .u64 0, .int .u64 0, .int .u64 0, .int .u64 0, .int .u64 0, .int .u64 0, .bool false, .int .i64 0, .int .i64 0, .int .i64 0, .int .i64 0, .int .i64 0, .int .i64 0, .int .i64 0, .int .i64 0, .int .i64 0, .int .i64 0, .int .i64 0, .int .i64 0] : Array Value).size := by kernel_rfl
theorem z24one : (#[.int .u64 0, .int .u64 0, .int .u64 0, .int .u64 0, .int .u64 0, .int .u64 0, .int .u64 0, .int .u64 0, .int .u64 0, .int .u64 0, .int .u64 0, .bool false, .int .i64 0, .int .i64 0, .int .i64 0, .int .i64 0, .int .i64 0, .int .i64 0, .int .i64 0, .int .i64 0, .int .i64 0, .int .i64 0, .int .i64 0, .int .i64 0] : Array Value).all (·.oneCell') = true := by simp [Value.oneCell']
theorem z24hd (h : Hd) : (#[.int .u64 0, .int .u64 0, .int .u64 0, .int .u64 0, .int .u64 0, .int .u64 0, .int .u64 0, .int .u64 0, .int .u64 0, .int .u64 0, .int .u64 0, .bool false, .int .i64 0, .int .i64 0, .int .i64 0, .int .i64 0, .int .i64 0, .int .i64 0, .int .i64 0, .int .i64 0, .int .i64 0, .int .i64 0, .int .i64 0, .int .i64 0] : Array Value).size = h.cells.size := rfl
theorem Hd.info (h : Hd) : (Try.prog.info? 49).map (·.size) = some h.cells.size := by rw [h.size]; exact info24
set_option maxRecDepth 100000 in
set_option maxHeartbeats 4000000 in
theorem ahead_any (A : Option Addr) (c : Nat) (bs : List UInt8) (w : World) (B : Nat) (hr : Rd w B A bs.length (bs.map bv)) (hB : B ≤ w.heap.size) (hcap : bs.length ≤ c) (hmax : bs.length ≤ 9223372036854775807) (r : Int) (hR : RightR (headOf bs) bs.length r) :
    Calls Try.prog 14 #[.slice A bs.length c] w fun e w' => e = .returned (.tuple #[.agg (headV bs r).1.cells, .int .i64 (headV bs r).2]) ∧ Below w.heap.size w w' := by
  obtain ⟨G, hG⟩ : ∃ G, w.heap.size = G := ⟨_, rfl⟩
  obtain ⟨w1, hw1⟩ : ∃ W, w.alloc (.cells #[.int .u64 0, .int .u64 0, .int .u64 0, .int .u64 0, .int .u64 0, .int .u64 0, .int .u64 0, .int .u64 0, .int .u64 0, .int .u64 0, .int .u64 0, .bool false, .int .i64 0, .int .i64 0, .int .i64 0, .int .i64 0, .int .i64 0, .int .i64 0, .int .i64 0, .int .i64 0, .int .i64 0, .int .i64 0, .int .i64 0, .int .i64 0] 49) = W := ⟨_, rfl⟩
  have hk1 := hide (show Blk w1 G 49 #[.int .u64 0, .int .u64 0, .int .u64 0, .int .u64 0, .int .u64 0, .int .u64 0, .int .u64 0, .int .u64 0, .int .u64 0, .int .u64 0, .int .u64 0, .bool false, .int .i64 0, .int .i64 0, .int .i64 0, .int .i64 0, .int .i64 0, .int .i64 0, .int .i64 0, .int .i64 0, .int .i64 0, .int .i64 0, .int .i64 0, .int .i64 0] from by rw [← hw1, ← hG]; exact Blk.new w _ _)
  have hs1 := hide (show w1.heap.size = G + 1 from by rw [← hw1, ← hG]; simp)
  have hb1 := hide (show Below G w w1 from by rw [← hw1, ← hG]; exact (Below.refl _ w).alloc (Nat.le_refl _) _)
  have hr1 := hide (hr.below (hb1.out.mono (by omega)))
  have hB1 := hide (show B ≤ w1.heap.size from by rw [hs1.out]; omega)
  have hmaxI : (bs.length : Int) ≤ 9223372036854775807 := by omega
  obtain ⟨wz, hwz⟩ : ∃ W, w1.setRow G #[.int .u64 0, .int .u64 0, .int .u64 0, .int .u64 0, .int .u64 0, .int .u64 0, .int .u64 0, .int .u64 0, .int .u64 0, .int .u64 0, .int .u64 0, .bool false, .int .i64 0, .int .i64 0, .int .i64 0, .int .i64 0, .int .i64 0, .int .i64 0, .int .i64 0, .int .i64 0, .int .i64 0, .int .i64 0, .int .i64 0, .int .i64 0] = W := ⟨_, rfl⟩
  have hkz := hide (show Blk wz G 49 #[.int .u64 0, .int .u64 0, .int .u64 0, .int .u64 0, .int .u64 0, .int .u64 0, .int .u64 0, .int .u64 0, .int .u64 0, .int .u64 0, .int .u64 0, .bool false, .int .i64 0, .int .i64 0, .int .i64 0, .int .i64 0, .int .i64 0, .int .i64 0, .int .i64 0, .int .i64 0, .int .i64 0, .int .i64 0, .int .i64 0, .int .i64 0] from by rw [← hwz]; exact hk1.out.row _)
  have hbz := hide (show Below G w wz from by rw [← hwz]; exact below_row hb1.out (Nat.le_refl _) _)
  have hzc := hide (show Hd.zero.cells = #[.int .u64 0, .int .u64 0, .int .u64 0, .int .u64 0, .int .u64 0, .int .u64 0, .int .u64 0, .int .u64 0, .int .u64 0, .int .u64 0, .int .u64 0, .bool false, .int .i64 0, .int .i64 0, .int .i64 0, .int .i64 0, .int .i64 0, .int .i64 0, .int .i64 0, .int .i64 0, .int .i64 0, .int .i64 0, .int .i64 0, .int .i64 0] from rfl)
  rw [hG]
  unfold headV
  by_cases hlong : 4194304 < bs.length
  · rw [if_pos hlong]
    simp only
    rw [hzc.out]
    have hI : (4194304 : Int) < (bs.length : Int) := by omega
    generalize bs.length = L at *
    clear hR hcap hmax hlong hr1 hr hB hB1
    go_enter Try.func14, Try.ntmps14
    go_wp2_with (with_reducible refine wpList_store_row (o := ⟨none, .store 49 (.tmp 2) (.tmp 10), _, _, _, _⟩) rfl 49 (.tmp 2) (.tmp 10) rfl G #[.int .u64 0, .int .u64 0, .int .u64 0, .int .u64 0, .int .u64 0, .int .u64 0, .int .u64 0, .int .u64 0, .int .u64 0, .int .u64 0, .int .u64 0, .bool false, .int .i64 0, .int .i64 0, .int .i64 0, .int .i64 0, .int .i64 0, .int .i64 0, .int .i64 0, .int .i64 0, .int .i64 0, .int .i64 0, .int .i64 0, .int .i64 0] rfl rfl 49 _ hk1.out.eq z24info rfl z24one ?_)
    exact bodyPost_ret_by (results_hd rfl _ _ G 49 #[.int .u64 0, .int .u64 0, .int .u64 0, .int .u64 0, .int .u64 0, .int .u64 0, .int .u64 0, .int .u64 0, .int .u64 0, .int .u64 0, .int .u64 0, .bool false, .int .i64 0, .int .i64 0, .int .i64 0, .int .i64 0, .int .i64 0, .int .i64 0, .int .i64 0, .int .i64 0, .int .i64 0, .int .i64 0, .int .i64 0, .int .i64 0] (0, 0) _ rfl hkz.out.eq Try.underlying49 rfl info24) rfl ⟨rfl, hbz.out⟩
  · rw [if_neg hlong]
    by_cases hshort : bs.length < 127
    · rw [if_pos hshort]
      simp only
      rw [hzc.out]
      have hI : (bs.length : Int) ≤ 4194304 := by omega
      have hI2 : (bs.length : Int) < 127 := by omega
      generalize bs.length = L at *
      clear hR hcap hmax hlong hshort hr1 hr hB hB1 hmaxI
      go_enter Try.func14, Try.ntmps14
      go_wp2_with (with_reducible refine wpList_store_row (o := ⟨none, .store 49 (.tmp 2) (.tmp 15), _, _, _, _⟩) rfl 49 (.tmp 2) (.tmp 15) rfl G #[.int .u64 0, .int .u64 0, .int .u64 0, .int .u64 0, .int .u64 0, .int .u64 0, .int .u64 0, .int .u64 0, .int .u64 0, .int .u64 0, .int .u64 0, .bool false, .int .i64 0, .int .i64 0, .int .i64 0, .int .i64 0, .int .i64 0, .int .i64 0, .int .i64 0, .int .i64 0, .int .i64 0, .int .i64 0, .int .i64 0, .int .i64 0] rfl rfl 49 _ hk1.out.eq z24info rfl z24one ?_)
      exact bodyPost_ret_by (results_hd rfl _ _ G 49 #[.int .u64 0, .int .u64 0, .int .u64 0, .int .u64 0, .int .u64 0, .int .u64 0, .int .u64 0, .int .u64 0, .int .u64 0, .int .u64 0, .int .u64 0, .bool false, .int .i64 0, .int .i64 0, .int .i64 0, .int .i64 0, .int .i64 0, .int .i64 0, .int .i64 0, .int .i64 0, .int .i64 0, .int .i64 0, .int .i64 0, .int .i64 0] (0, 0) _ rfl hkz.out.eq Try.underlying49 rfl info24) rfl ⟨rfl, hbz.out⟩
    · rw [if_neg hshort]
      have hI : (bs.length : Int) ≤ 4194304 := by omega
      have hI2 : (127 : Int) ≤ (bs.length : Int) := by omega
      have hI3 : (96 : Int) < (bs.length : Int) := by omega
      have hI4 : (8 : Int) ≤ (c : Int) := by omega
      have hI5 : (bs.length : Int) ≤ (c : Int) := by omega
      obtain ⟨bb, oo, hA, _, c96⟩ := hr1.out.byt 96 (by omega)
      subst hA
      have ks := str13 (show Rd w1 B (some ⟨bb, oo, none⟩) 8 ((bs.take 8).map bv) from by rw [List.map_take]; exact hr1.out.take 8 (by omega)) c
      obtain ⟨S8, hS8⟩ : ∃ S, ByteArray.mk (bs.take 8).toArray = S := ⟨_, rfl⟩
      rw [hS8] at ks
      by_cases hm1 : bs.take 8 = mag
      · have hS : S8.toList = [80, 77, 84, 105, 108, 101, 115, 3] := by rw [← hS8, hm1, toList_data]; rfl
        by_cases hm2 : byt bs 96 ≤ 1
        · rw [if_pos ⟨hm1, hm2⟩]
          have hp := hide (parse_any (some ⟨bb, oo, none⟩) c bs w1 B hr1.out hB1.out (by omega) (by omega))
          have hq := hide (fun W => right_any (headOf bs) bs.length W hmaxI r hR)
          have hone := hide (headOf bs).one
          have hsz := hide (z24hd (headOf bs))
          have hinfo := hide (headOf bs).info
          generalize bs.length = L at *
          generalize byt bs 96 = n96 at *
          by_cases hr0 : r = 0
          · rw [if_pos hr0]
            subst hr0
            simp only
            generalize (headOf bs).cells = cs at *
            clear hR hcap hmax hlong hshort hr1 hr hB hB1 hmaxI hS8 hm1
            go_enter Try.func14, Try.ntmps14
            go_wp2_with (first
              | (go_at_call 27; (with_reducible refine hp.out.mono ?_); rintro e w2 ⟨rfl, hb2⟩; obtain ⟨S3, hS3⟩ : ∃ S, w2.heap.size = S := ⟨_, rfl⟩; have hne := hide (show G < S3 from by have := hk1.out.lt; have := hb2.size; omega); obtain ⟨w3, hw3⟩ : ∃ W, w2.alloc (.cells #[.int .u64 0, .int .u64 0, .int .u64 0, .int .u64 0, .int .u64 0, .int .u64 0, .int .u64 0, .int .u64 0, .int .u64 0, .int .u64 0, .int .u64 0, .bool false, .int .i64 0, .int .i64 0, .int .i64 0, .int .i64 0, .int .i64 0, .int .i64 0, .int .i64 0, .int .i64 0, .int .i64 0, .int .i64 0, .int .i64 0, .int .i64 0] 49) = W := ⟨_, rfl⟩; have k3 := hide (show Blk w3 S3 49 #[.int .u64 0, .int .u64 0, .int .u64 0, .int .u64 0, .int .u64 0, .int .u64 0, .int .u64 0, .int .u64 0, .int .u64 0, .int .u64 0, .int .u64 0, .bool false, .int .i64 0, .int .i64 0, .int .i64 0, .int .i64 0, .int .i64 0, .int .i64 0, .int .i64 0, .int .i64 0, .int .i64 0, .int .i64 0, .int .i64 0, .int .i64 0] from by rw [← hw3, ← hS3]; exact Blk.new w2 _ _); have kA3 := hide (show Blk w3 G 49 #[.int .u64 0, .int .u64 0, .int .u64 0, .int .u64 0, .int .u64 0, .int .u64 0, .int .u64 0, .int .u64 0, .int .u64 0, .int .u64 0, .int .u64 0, .bool false, .int .i64 0, .int .i64 0, .int .i64 0, .int .i64 0, .int .i64 0, .int .i64 0, .int .i64 0, .int .i64 0, .int .i64 0, .int .i64 0, .int .i64 0, .int .i64 0] from by rw [← hw3]; exact (hk1.out.below hb2 hk1.out.lt).alloc _); have hb3 := hide (show Below G w w3 from by rw [← hw3]; exact (hb1.out.trans (hb2.mono (by have := hs1.out; omega))).alloc (by have := hne.out; omega) _); obtain ⟨w4, hw4⟩ : ∃ W, w3.setRow S3 cs = W := ⟨_, rfl⟩; have k4 := hide (show Blk w4 S3 49 cs from by rw [← hw4]; exact k3.out.row _); have kA4 := hide (show Blk w4 G 49 #[.int .u64 0, .int .u64 0, .int .u64 0, .int .u64 0, .int .u64 0, .int .u64 0, .int .u64 0, .int .u64 0, .int .u64 0, .int .u64 0, .int .u64 0, .bool false, .int .i64 0, .int .i64 0, .int .i64 0, .int .i64 0, .int .i64 0, .int .i64 0, .int .i64 0, .int .i64 0, .int .i64 0, .int .i64 0, .int .i64 0, .int .i64 0] from by rw [← hw4]; exact (setRow_other w3 S3 G cs (by have := hne.out; omega)).trans kA3.out); have hb4 := hide (show Below G w w4 from by rw [← hw4]; exact below_row hb3.out (by have := hne.out; omega) _))
              | ((with_reducible refine wpList_store_row (o := ⟨none, .store 49 (.tmp 4) (.tmp 29), _, _, _, _⟩) rfl 49 (.tmp 4) (.tmp 29) rfl S3 cs rfl rfl 49 _ k3.out.eq hinfo.out hsz.out hone.out ?_); rw [hw4])
              | (with_reducible refine wpList_load_row (o := ⟨some 30, .load 49 (.tmp 4), _, _, _, _⟩) rfl 49 (.tmp 4) rfl S3 rfl 49 cs (0, 0) _ k4.out.eq Try.underlying49 rfl hinfo.out ?_)
              | (go_at_call 28; (with_reducible refine (hq.out _).mono ?_); rintro e w5 ⟨rfl, hb5⟩; have k5 := hide (k4.out.below hb5 k4.out.lt); have kA5 := hide (kA4.out.below hb5 kA4.out.lt); have hb6 := hide (hb4.out.trans (hb5.mono (by have := kA4.out.lt; omega))); obtain ⟨wf, hwf⟩ : ∃ W, w5.setRow G cs = W := ⟨_, rfl⟩; have kz := hide (show Blk wf G 49 cs from by rw [← hwf]; exact kA5.out.row _); have hz := hide (show Below G w wf from by rw [← hwf]; exact below_row hb6.out (Nat.le_refl _) _))
              | (with_reducible refine wpList_load_row (o := ⟨some 38, .load 49 (.tmp 4), _, _, _, _⟩) rfl 49 (.tmp 4) rfl S3 rfl 49 cs (0, 0) _ k5.out.eq Try.underlying49 rfl hinfo.out ?_)
              | ((with_reducible refine wpList_store_row (o := ⟨none, .store 49 (.tmp 2) (.tmp 38), _, _, _, _⟩) rfl 49 (.tmp 2) (.tmp 38) rfl G cs rfl rfl 49 _ kA5.out.eq hinfo.out hsz.out hone.out ?_); rw [hwf]))
            exact bodyPost_ret_by (results_hd rfl _ _ G 49 cs (0, 0) _ rfl kz.out.eq Try.underlying49 rfl hinfo.out) rfl ⟨rfl, hz.out⟩
          · rw [if_neg hr0]
            simp only
            rw [hzc.out]
            generalize (headOf bs).cells = cs at *
            clear hR hcap hmax hlong hshort hr1 hr hB hB1 hmaxI hS8 hm1
            go_enter Try.func14, Try.ntmps14
            go_wp2_with (first
              | (go_at_call 27; (with_reducible refine hp.out.mono ?_); rintro e w2 ⟨rfl, hb2⟩; obtain ⟨S3, hS3⟩ : ∃ S, w2.heap.size = S := ⟨_, rfl⟩; have hne := hide (show G < S3 from by have := hk1.out.lt; have := hb2.size; omega); obtain ⟨w3, hw3⟩ : ∃ W, w2.alloc (.cells #[.int .u64 0, .int .u64 0, .int .u64 0, .int .u64 0, .int .u64 0, .int .u64 0, .int .u64 0, .int .u64 0, .int .u64 0, .int .u64 0, .int .u64 0, .bool false, .int .i64 0, .int .i64 0, .int .i64 0, .int .i64 0, .int .i64 0, .int .i64 0, .int .i64 0, .int .i64 0, .int .i64 0, .int .i64 0, .int .i64 0, .int .i64 0] 49) = W := ⟨_, rfl⟩; have k3 := hide (show Blk w3 S3 49 #[.int .u64 0, .int .u64 0, .int .u64 0, .int .u64 0, .int .u64 0, .int .u64 0, .int .u64 0, .int .u64 0, .int .u64 0, .int .u64 0, .int .u64 0, .bool false, .int .i64 0, .int .i64 0, .int .i64 0, .int .i64 0, .int .i64 0, .int .i64 0, .int .i64 0, .int .i64 0, .int .i64 0, .int .i64 0, .int .i64 0, .int .i64 0] from by rw [← hw3, ← hS3]; exact Blk.new w2 _ _); have kA3 := hide (show Blk w3 G 49 #[.int .u64 0, .int .u64 0, .int .u64 0, .int .u64 0, .int .u64 0, .int .u64 0, .int .u64 0, .int .u64 0, .int .u64 0, .int .u64 0, .int .u64 0, .bool false, .int .i64 0, .int .i64 0, .int .i64 0, .int .i64 0, .int .i64 0, .int .i64 0, .int .i64 0, .int .i64 0, .int .i64 0, .int .i64 0, .int .i64 0, .int .i64 0] from by rw [← hw3]; exact (hk1.out.below hb2 hk1.out.lt).alloc _); have hb3 := hide (show Below G w w3 from by rw [← hw3]; exact (hb1.out.trans (hb2.mono (by have := hs1.out; omega))).alloc (by have := hne.out; omega) _); obtain ⟨w4, hw4⟩ : ∃ W, w3.setRow S3 cs = W := ⟨_, rfl⟩; have k4 := hide (show Blk w4 S3 49 cs from by rw [← hw4]; exact k3.out.row _); have kA4 := hide (show Blk w4 G 49 #[.int .u64 0, .int .u64 0, .int .u64 0, .int .u64 0, .int .u64 0, .int .u64 0, .int .u64 0, .int .u64 0, .int .u64 0, .int .u64 0, .int .u64 0, .bool false, .int .i64 0, .int .i64 0, .int .i64 0, .int .i64 0, .int .i64 0, .int .i64 0, .int .i64 0, .int .i64 0, .int .i64 0, .int .i64 0, .int .i64 0, .int .i64 0] from by rw [← hw4]; exact (setRow_other w3 S3 G cs (by have := hne.out; omega)).trans kA3.out); have hb4 := hide (show Below G w w4 from by rw [← hw4]; exact below_row hb3.out (by have := hne.out; omega) _))
              | ((with_reducible refine wpList_store_row (o := ⟨none, .store 49 (.tmp 4) (.tmp 29), _, _, _, _⟩) rfl 49 (.tmp 4) (.tmp 29) rfl S3 cs rfl rfl 49 _ k3.out.eq hinfo.out hsz.out hone.out ?_); rw [hw4])
              | (with_reducible refine wpList_load_row (o := ⟨some 30, .load 49 (.tmp 4), _, _, _, _⟩) rfl 49 (.tmp 4) rfl S3 rfl 49 cs (0, 0) _ k4.out.eq Try.underlying49 rfl hinfo.out ?_)
              | (go_at_call 28; (with_reducible refine (hq.out _).mono ?_); rintro e w5 ⟨rfl, hb5⟩; have k5 := hide (k4.out.below hb5 k4.out.lt); have kA5 := hide (kA4.out.below hb5 kA4.out.lt); have hb6 := hide (hb4.out.trans (hb5.mono (by have := kA4.out.lt; omega))); obtain ⟨wf, hwf⟩ : ∃ W, w5.setRow G #[.int .u64 0, .int .u64 0, .int .u64 0, .int .u64 0, .int .u64 0, .int .u64 0, .int .u64 0, .int .u64 0, .int .u64 0, .int .u64 0, .int .u64 0, .bool false, .int .i64 0, .int .i64 0, .int .i64 0, .int .i64 0, .int .i64 0, .int .i64 0, .int .i64 0, .int .i64 0, .int .i64 0, .int .i64 0, .int .i64 0, .int .i64 0] = W := ⟨_, rfl⟩; have kz := hide (show Blk wf G 49 #[.int .u64 0, .int .u64 0, .int .u64 0, .int .u64 0, .int .u64 0, .int .u64 0, .int .u64 0, .int .u64 0, .int .u64 0, .int .u64 0, .int .u64 0, .bool false, .int .i64 0, .int .i64 0, .int .i64 0, .int .i64 0, .int .i64 0, .int .i64 0, .int .i64 0, .int .i64 0, .int .i64 0, .int .i64 0, .int .i64 0, .int .i64 0] from by rw [← hwf]; exact kA5.out.row _); have hz := hide (show Below G w wf from by rw [← hwf]; exact below_row hb6.out (Nat.le_refl _) _))
              | ((with_reducible refine wpList_store_row (o := ⟨none, .store 49 (.tmp 2) (.tmp 36), _, _, _, _⟩) rfl 49 (.tmp 2) (.tmp 36) rfl G #[.int .u64 0, .int .u64 0, .int .u64 0, .int .u64 0, .int .u64 0, .int .u64 0, .int .u64 0, .int .u64 0, .int .u64 0, .int .u64 0, .int .u64 0, .bool false, .int .i64 0, .int .i64 0, .int .i64 0, .int .i64 0, .int .i64 0, .int .i64 0, .int .i64 0, .int .i64 0, .int .i64 0, .int .i64 0, .int .i64 0, .int .i64 0] rfl rfl 49 _ kA5.out.eq z24info rfl z24one ?_); rw [hwf]))
            exact bodyPost_ret_by (results_hd rfl _ _ G 49 #[.int .u64 0, .int .u64 0, .int .u64 0, .int .u64 0, .int .u64 0, .int .u64 0, .int .u64 0, .int .u64 0, .int .u64 0, .int .u64 0, .int .u64 0, .bool false, .int .i64 0, .int .i64 0, .int .i64 0, .int .i64 0, .int .i64 0, .int .i64 0, .int .i64 0, .int .i64 0, .int .i64 0, .int .i64 0, .int .i64 0, .int .i64 0] (0, 0) _ rfl kz.out.eq Try.underlying49 rfl info24) rfl ⟨rfl, hz.out⟩
        · have hm2I : 1 < byt bs 96 := by omega
          rw [if_neg (fun h => hm2 h.2)]
          simp only
          rw [hzc.out]
          generalize bs.length = L at *
          generalize byt bs 96 = n96 at *
          clear hR hcap hmax hlong hshort hr1 hr hB hB1 hmaxI hS8 hm1 hm2
          go_enter Try.func14, Try.ntmps14
          go_wp2_with (with_reducible refine wpList_store_row (o := ⟨none, .store 49 (.tmp 2) (.tmp 27), _, _, _, _⟩) rfl 49 (.tmp 2) (.tmp 27) rfl G #[.int .u64 0, .int .u64 0, .int .u64 0, .int .u64 0, .int .u64 0, .int .u64 0, .int .u64 0, .int .u64 0, .int .u64 0, .int .u64 0, .int .u64 0, .bool false, .int .i64 0, .int .i64 0, .int .i64 0, .int .i64 0, .int .i64 0, .int .i64 0, .int .i64 0, .int .i64 0, .int .i64 0, .int .i64 0, .int .i64 0, .int .i64 0] rfl rfl 49 _ hk1.out.eq z24info rfl z24one ?_)
          exact bodyPost_ret_by (results_hd rfl _ _ G 49 #[.int .u64 0, .int .u64 0, .int .u64 0, .int .u64 0, .int .u64 0, .int .u64 0, .int .u64 0, .int .u64 0, .int .u64 0, .int .u64 0, .int .u64 0, .bool false, .int .i64 0, .int .i64 0, .int .i64 0, .int .i64 0, .int .i64 0, .int .i64 0, .int .i64 0, .int .i64 0, .int .i64 0, .int .i64 0, .int .i64 0, .int .i64 0] (0, 0) _ rfl hkz.out.eq Try.underlying49 rfl info24) rfl ⟨rfl, hbz.out⟩
      · have hS : (S8.toList == [80, 77, 84, 105, 108, 101, 115, 3]) = false := by
          rw [beq_eq_false_iff_ne]
          intro h
          rw [← hS8, toList_data] at h
          exact hm1 h
        rw [if_neg (fun h => hm1 h.1)]
        simp only
        rw [hzc.out]
        generalize bs.length = L at *
        generalize byt bs 96 = n96 at *
        clear hR hcap hmax hlong hshort hr1 hr hB hB1 hmaxI hS8 hm1
        go_enter Try.func14, Try.ntmps14
        go_wp2_with (with_reducible refine wpList_store_row (o := ⟨none, .store 49 (.tmp 2) (.tmp 27), _, _, _, _⟩) rfl 49 (.tmp 2) (.tmp 27) rfl G #[.int .u64 0, .int .u64 0, .int .u64 0, .int .u64 0, .int .u64 0, .int .u64 0, .int .u64 0, .int .u64 0, .int .u64 0, .int .u64 0, .int .u64 0, .bool false, .int .i64 0, .int .i64 0, .int .i64 0, .int .i64 0, .int .i64 0, .int .i64 0, .int .i64 0, .int .i64 0, .int .i64 0, .int .i64 0, .int .i64 0, .int .i64 0] rfl rfl 49 _ hk1.out.eq z24info rfl z24one ?_)
        exact bodyPost_ret_by (results_hd rfl _ _ G 49 #[.int .u64 0, .int .u64 0, .int .u64 0, .int .u64 0, .int .u64 0, .int .u64 0, .int .u64 0, .int .u64 0, .int .u64 0, .int .u64 0, .int .u64 0, .bool false, .int .i64 0, .int .i64 0, .int .i64 0, .int .i64 0, .int .i64 0, .int .i64 0, .int .i64 0, .int .i64 0, .int .i64 0, .int .i64 0, .int .i64 0, .int .i64 0] (0, 0) _ rfl hkz.out.eq Try.underlying49 rfl info24) rfl ⟨rfl, hbz.out⟩

end Go.Proofs.Ytaapjampmnanmaa
