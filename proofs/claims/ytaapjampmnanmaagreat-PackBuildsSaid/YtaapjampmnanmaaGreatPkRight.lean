/- Layer 14 (pack): the reference's test of the items (Right). The conditions: where the items lie; at most 40 items, none of more than a mebibyte. -/
import Derived.Test.YtaapjampmnanmaaGreatPkSorted
import Derived.Test.YtaapjampmnanmaaGreatPkEn
import Derived.Test.YtaapjampmnanmaaGreatHilbX
namespace Go.Proofs.YtaapjampmnanmaaGreat
open Go.RowKit
set_option linter.unusedVariables false
set_option linter.unusedSimpArgs false

theorem imright_any (m : Im) (w : World) : Calls Tryz.prog 69 #[.agg #[.int .i64 m.z, .int .i64 m.x, .int .i64 m.y]] w fun e w' =>
    ((m.ok ∧ e = .returned (.bool true)) ∨ (¬ m.ok ∧ e = .returned (.bool false))) ∧ Below w.heap.size w w' := by
  by_cases h : m.ok
  · obtain ⟨a, b, c, h1, h2, h3, h4, h5, h6⟩ := isPl_nat h
    rw [h1, h2, h3]
    exact (refright_yes a b c w h4 h5 h6).mono fun e w' ⟨he, hb⟩ => ⟨.inl ⟨h, he⟩, hb⟩
  · exact (refright_no m.z m.x m.y w h).mono fun e w' ⟨he, hb⟩ => ⟨.inr ⟨h, he⟩, hb⟩
theorem neql_pl (W : World) {xz xx xy yz yx yy : Int} (h : ¬ (xz = yz ∧ xx = yx ∧ xy = yy)) :
    (binOp .eql 43 (.agg #[Value.int .i64 xz, .int .i64 xx, .int .i64 xy]) (.agg #[Value.int .i64 yz, .int .i64 yx, .int .i64 yy])).run Tryz.prog W = .ok (.bool false) W := by
  obtain ⟨v0, h0⟩ : ∃ v, (xz == yz) = v := ⟨_, rfl⟩
  obtain ⟨v1, h1⟩ : ∃ v, (xx == yx) = v := ⟨_, rfl⟩
  obtain ⟨v2, h2⟩ : ∃ v, (xy == yy) = v := ⟨_, rfl⟩
  have hand : (v0 && (v1 && v2)) = false := by
    rw [← h0, ← h1, ← h2]
    simp only [Bool.and_eq_false_iff, beq_eq_false_iff_ne, ne_eq]
    omega
  clear h
  cases v0 <;> cases v1 <;> cases v2 <;> first | (simp at hand; done) | (clear hand; go_simp)

set_option maxRecDepth 100000 in
set_option maxHeartbeats 8000000 in
theorem pkright_any (A : Option Addr) (c B : Nat) (l : List Im) (w : World) (hr : RdIm w B A l) (hB : B ≤ w.heap.size) (hn : l.length ≤ 40) (er : Nat) (hE : SortE l er) :
    Calls Tryz.prog 82 #[.slice A l.length c] w fun e w' => e = .returned (.int .i64 (er : Int)) ∧ Below w.heap.size w w' := by
  obtain ⟨n, hl⟩ : ∃ n, l.length = n := ⟨_, rfl⟩
  rw [hl]
  have hnI : (n : Int) ≤ 40 := by omega
  replace hr := hide hr
  replace hE := hide hE
  clear hn
  replace hl := hide hl
  go_enter Tryz.func82, Tryz.ntmps82
  go_wp2
  go_loopw [3] (fun s3 wr => ∃ k : Nat, k ≤ n ∧ s3 = .int .i64 k ∧ Hid (∀ j (hj : j < l.length), j < k → l[j].ok) ∧ Hid (Below w.heap.size w wr)) (fun s3 _ => n - (intOf s3).toNat)
  case atStart => exact ⟨0, Nat.zero_le _, rfl, hide (fun j _ h => absurd h (Nat.not_lt_zero _)), hide (Below.refl _ _)⟩
  case round =>
    obtain ⟨k, hk, rfl, hok, hb⟩ := hrel
    by_cases hlt : k < n
    · have hkl : k < l.length := by have := hl.out; omega
      have hkI : (k : Int) < n := by omega
      obtain ⟨b, o, rfl, _, e0, e1, e2, e3⟩ := (hr.out.below (hb.out.mono hB)) k hkl
      have hmem := hide (List.getElem_mem hkl)
      obtain ⟨m, hm⟩ : ∃ m, l[k] = m := ⟨_, rfl⟩
      rw [hm] at e0 e1 e2 e3 hmem
      replace hm := hide hm
      go_wp2_with (go_at_call 69; (with_reducible refine (imright_any m wr).mono ?_); rintro e w1 ⟨⟨hmo, rfl⟩ | ⟨hmo, rfl⟩, hb1⟩; all_goals (replace hmo := hide hmo; have hb1 := hide (hb.out.trans (hb1.mono hb.out.size))))
      · go_roundw
        case rel => exact ⟨k + 1, by omega, by go_num, hide (fun j hj hjk => by
          rcases (show j < k ∨ j = k by omega) with h | rfl
          · exact hok.out j hj h
          · rw [hm.out]; exact hmo.out), hb1⟩
        case measure => simp [intOf] <;> omega
      · obtain rfl := hE.out.bad ⟨m, hmem.out, hmo.out⟩
        go_ret
        exact ⟨rfl, hb1.out⟩
    · obtain rfl : k = n := by omega
      have hall := hide (show ∀ m ∈ l, m.ok from fun m hm => by
        obtain ⟨j, hj, rfl⟩ := List.getElem_of_mem hm
        exact hok.out j hj (by have := hl.out; omega))
      clear hok
      go_wp2
      go_loopg [4] k (fun gk s4 wz => ∃ i : Nat, s4 = .int .i64 i ∧ gk + i = k ∧ Hid (∀ a b (ha : a < l.length) (hb : b < l.length), a < b → b < i → l[a].num ≠ l[b].num) ∧ Hid (∀ j (hj : j < l.length), j < i → l[j].n ≠ 0) ∧ Hid (Below w.heap.size w wz))
      case atStart => exact ⟨0, rfl, by omega, hide (fun a b _ _ _ h => absurd h (Nat.not_lt_zero _)), hide (fun j _ h => absurd h (Nat.not_lt_zero _)), hb⟩
      case round =>
        clear hb
        obtain ⟨i, rfl, hgi, hne, hz, hb⟩ := hrel
        by_cases hik : i < k
        · obtain ⟨gn, rfl⟩ : ∃ x, gk = x + 1 := ⟨gk - 1, by omega⟩
          have hikI : (i : Int) < (k : Int) := by omega
          have hil : i < l.length := by have := hl.out; omega
          go_wp2
          go_loopg [5] i (fun jk s5 wy => ∃ q : Nat, s5 = .int .i64 q ∧ jk + q = i ∧ Hid (∀ a (ha : a < l.length), a < q → l[a].num ≠ l[i].num) ∧ Hid (Below w.heap.size w wy))
          case atStart => exact ⟨0, rfl, by omega, hide (fun a _ h => absurd h (Nat.not_lt_zero _)), hb⟩
          case round =>
            clear hb
            obtain ⟨q, rfl, hjq, hna, hb⟩ := hrel
            obtain ⟨b, o, rfl, _, e0, e1, e2, e3⟩ := (hr.out.below (hb.out.mono hB)) i hil
            by_cases hqi : q < i
            · obtain ⟨jn, rfl⟩ : ∃ x, gk = x + 1 := ⟨gk - 1, by omega⟩
              have hqiI : (q : Int) < (i : Int) := by omega
              have hqkI : (q : Int) < (k : Int) := by omega
              have hql : q < l.length := by omega
              obtain ⟨b2, o2, hA2, _, y0, y1, y2, y3⟩ := (hr.out.below (hb.out.mono hB)) q hql
              cases hA2
              by_cases hnum : l[q].num = l[i].num
              · obtain ⟨z1, z2, z3⟩ := num_inj (hall.out _ (List.getElem_mem hql)) (hall.out _ (List.getElem_mem hil)) hnum
                obtain rfl := hE.out.form hall.out (.inr (.inr ⟨q, i, hql, hil, hqi, hnum⟩))
                rw [z1] at y0
                rw [z2] at y1
                rw [z3] at y2
                generalize l[i].z = iz at e0 y0
                generalize l[i].x = ix at e1 y1
                generalize l[i].y = iy at e2 y2
                clear z1 z2 z3 e3 y3 hnum
                go_upto_region 12 with fail
                go_quiet (fail)
                go_wp2
                go_ret
                exact ⟨rfl, below_drewN hb.out _⟩
              · have hpl : ¬ (l[q].z = l[i].z ∧ l[q].x = l[i].x ∧ l[q].y = l[i].y) := fun ⟨z1, z2, z3⟩ => hnum (by unfold Im.num; rw [z1, z2, z3])
                have hg := fun W : World => neql_pl W hpl
                have hna2 := hide (show ∀ a (ha : a < l.length), a < q + 1 → l[a].num ≠ l[i].num from fun a ha haq => by
                  rcases (show a < q ∨ a = q by omega) with h | rfl
                  · exact hna.out a ha h
                  · exact hnum)
                clear hpl hnum e3 y3
                generalize l[i].z = iz at e0 hg
                generalize l[i].x = ix at e1 hg
                generalize l[i].y = iy at e2 hg
                generalize l[q].z = qz at y0 hg
                generalize l[q].x = qx at y1 hg
                generalize l[q].y = qy at y2 hg
                go_upto_region 12 with fail
                go_quiet (fail)
                go_wp2
                go_roundg jn
                case measure => omega
                case rel => exact ⟨q + 1, by go_num, by omega, hna2, hide (below_drewN hb.out _)⟩
            · obtain rfl : q = i := by omega
              have hne2 := hide (show ∀ a b (ha : a < l.length) (hb : b < l.length), a < b → b < q + 1 → l[a].num ≠ l[b].num from fun a b ha hb' hab hbq => by
                rcases (show b < q ∨ b = q by omega) with h | rfl
                · exact hne.out a b ha hb' hab h
                · exact hna.out a ha hab)
              have hmem := hide (List.getElem_mem hil)
              obtain ⟨m, hm⟩ : ∃ m, l[q] = m := ⟨_, rfl⟩
              rw [hm] at e0 e1 e2 e3 hmem
              replace hm := hide hm
              obtain ⟨mn, hmn⟩ : ∃ k, m.n = k := ⟨_, rfl⟩
              rw [hmn] at e3
              rcases Nat.eq_zero_or_pos mn with rfl | hpos
              · obtain rfl := hE.out.form hall.out (.inr (.inl ⟨m, hmem.out, hmn⟩))
                go_wp2
                go_ret
                exact ⟨rfl, hb.out⟩
              · have hmz : ((mn : Int) == 0) = false := by rw [beq_eq_false_iff_ne]; omega
                have hz2 := hide (show ∀ j (hj : j < l.length), j < q + 1 → l[j].n ≠ 0 from fun j hj hjq => by
                  rcases (show j < q ∨ j = q by omega) with h | rfl
                  · exact hz.out j hj h
                  · rw [hm.out]; omega)
                replace hmn := hide hmn
                go_wp2
                go_roundg gn
                case measure => omega
                case rel => exact ⟨q + 1, by go_num, by omega, hne2, hz2, hb⟩
        · obtain rfl : i = k := by omega
          rcases Nat.eq_zero_or_pos i with rfl | hpos
          · obtain rfl : l = [] := List.eq_nil_of_length_eq_zero hl.out
            obtain rfl := hE.out.form hall.out (.inl rfl)
            go_wp2
            go_ret
            exact ⟨rfl, hb.out⟩
          · have hlne : l ≠ [] := by intro h; have := hl.out; rw [h] at this; simp at this; omega
            have hz9 := hide (show ∀ m ∈ l, m.n ≠ 0 from fun m hm => by
              obtain ⟨j, hj, rfl⟩ := List.getElem_of_mem hm
              exact hz.out j hj (by have := hl.out; omega))
            have hap9 := hide (show ∀ (i j : Nat) (hi : i < l.length) (hj : j < l.length), i < j → l[i].num ≠ l[j].num from fun a b ha hb' hab => hne.out a b ha hb' hab (by have := hl.out; omega))
            have hkz : ((i : Int) == 0) = false := by rw [beq_eq_false_iff_ne]; omega
            have hkb : decide ((65536 : Int) < (i : Int)) = false := by simp; omega
            replace hlne := hide hlne
            clear hne hz
            go_wp2
            go_loopw [6] (fun s6 wz => ∃ j : Nat, j ≤ i ∧ s6 = .int .i64 j ∧ Hid (∀ q (hq : q < l.length), q < j → l[q].n ≤ 1048576) ∧ Hid (Below w.heap.size w wz)) (fun s6 _ => i - (intOf s6).toNat)
            case atStart => exact ⟨0, Nat.zero_le _, rfl, hide (fun _ _ h => absurd h (Nat.not_lt_zero _)), hb⟩
            case round =>
              clear hb
              obtain ⟨j, hji, rfl, hsm, hb⟩ := hrel
              by_cases hlt2 : j < i
              · have hjl : j < l.length := by have := hl.out; omega
                have hjI : (j : Int) < (i : Int) := by omega
                obtain ⟨b, o, rfl, _, _, _, _, e3⟩ := (hr.out.below (hb.out.mono hB)) j hjl
                have hmem := hide (List.getElem_mem hjl)
                obtain ⟨m, hm⟩ : ∃ m, l[j] = m := ⟨_, rfl⟩
                rw [hm] at e3 hmem
                replace hm := hide hm
                obtain ⟨mn, hmn⟩ : ∃ k, m.n = k := ⟨_, rfl⟩
                rw [hmn] at e3
                replace hmn := hide hmn
                rcases Nat.lt_or_ge 1048576 mn with hbg | hsz
                · have hszd : decide ((1048576 : Int) < (mn : Int)) = true := by simp; omega
                  obtain rfl := hE.out.long hall.out hlne.out hz9.out hap9.out ⟨m, hmem.out, by rw [hmn.out]; exact hbg⟩
                  replace hbg := hide hbg
                  go_wp2
                  go_ret
                  exact ⟨rfl, hb.out⟩
                · have hszd : decide ((1048576 : Int) < (mn : Int)) = false := by simp; omega
                  have hszI : (mn : Int) ≤ 1048576 := by omega
                  replace hsz := hide hsz
                  go_wp2
                  go_roundw
                  case rel => exact ⟨j + 1, by omega, by go_num, hide (fun q hq hqj => by
                    rcases (show q < j ∨ q = j by omega) with h | rfl
                    · exact hsm.out q hq h
                    · rw [hm.out, hmn.out]; exact hsz.out), hb⟩
                  case measure => simp [intOf] <;> omega
              · obtain rfl : j = i := by omega
                obtain rfl : er = 0 := hE.out.good hall.out hlne.out hz9.out hap9.out (fun m hm => by
                  obtain ⟨q, hq, rfl⟩ := List.getElem_of_mem hm
                  exact hsm.out q hq (by have := hl.out; omega))
                go_wp2
                go_ret
                exact ⟨rfl, hb.out⟩

end Go.Proofs.YtaapjampmnanmaaGreat
