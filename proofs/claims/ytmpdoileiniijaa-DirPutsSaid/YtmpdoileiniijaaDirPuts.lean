/- The statement DirPuts' walk: the law returns true for every input. The conditions: where the slices lie, and their lengths. -/
import Derived.Test.YtmpdoileiniijaaDirGets
import Derived.Test.YtmpdoileiniijaaDirRPut
import Derived.Deep.RegionWith
namespace Go.Proofs.Ytmpdoileiniijaa
open Go.RowKit

set_option maxRecDepth 100000 in
theorem put_bad (A : Option Addr) (c : Nat) (es : List Ent) (w : World) (B : Nat) (hr : RdE w B A es) (hB : B ≤ w.heap.size) (hbg : ∀ x ∈ es, x.big) (hn : es.length ≤ 200) (hR : ¬ RightE es) :
    Calls Try.prog 22 #[.slice A es.length c] w fun e w' => e = .returned (.tuple #[.slice none 0 0, .int .i64 3]) ∧ Below w.heap.size w w' := by
  have hrt := hide (dright_any A c es w B hr hB hbg (by simp only [maxLen]; omega) false ⟨fun h => absurd h hR, fun h => absurd h (by decide)⟩)
  generalize es.length = n at *
  clear hr hB hbg hn hR
  go_enter Try.func22, Try.ntmps22
  go_wp2_with (go_at_call 23; (with_reducible refine hrt.out.mono ?_); rintro e w1 ⟨rfl, hb1⟩; have hb1 := hide hb1)
  go_ret2
  exact ⟨rfl, hb1.out⟩

set_option maxRecDepth 100000 in
set_option maxHeartbeats 4000000 in
theorem dirputs_walk (A : Option Addr) (n c : Nat) (es : List Ent) (A2 : Option Addr) (n2 c2 : Nat) (fs : List Ent) (w : World) (hl : es.length = n) (hr : RdE w w.heap.size A es) (hbg : ∀ x ∈ es, x.big) (hml : n ≤ maxLen)
    (hl2 : fs.length = n2) (hr2 : RdE w w.heap.size A2 fs) (_hbg2 : ∀ x ∈ fs, x.big) (hml2 : n2 ≤ maxLen) :
    Calls Try.prog 6 #[.slice A n c, .slice A2 n2 c2] w fun e w' => e = .returned (.bool true) ∧ Below w.heap.size w w' := by
  have hlive := hide (fun W => dirlive_any W)
  have hcd := hide (fun (n : Int) W => dcode_any n W)
  by_cases hbig : 100 < n
  · have hnI : (n : Int) ≤ 9223372036854775807 := by simp only [maxLen] at hml; omega
    have hnJ : (101 : Int) ≤ (n : Int) := by omega
    clear hml hml2 hr hr2 hbg _hbg2 hl hl2 hbig
    go_enter Try.func6, Try.ntmps6
    go_wp2_with (go_at_call 15; (with_reducible refine (hlive.out _).mono ?_); rintro e w5 ⟨rfl, hb5⟩)
    go_ret
    exact ⟨rfl, hb5⟩
  · by_cases hbig2 : 100 < n2
    · have hnI : (n : Int) ≤ 100 := by omega
      have hmI : (n2 : Int) ≤ 9223372036854775807 := by simp only [maxLen] at hml2; omega
      have hnJ : (101 : Int) ≤ (n2 : Int) := by omega
      clear hml hml2 hr hr2 hbg _hbg2 hl hl2 hbig hbig2
      go_enter Try.func6, Try.ntmps6
      go_wp2_with (go_at_call 15; (with_reducible refine (hlive.out _).mono ?_); rintro e w5 ⟨rfl, hb5⟩)
      go_ret
      exact ⟨rfl, hb5⟩
    · have hnI : (n : Int) ≤ 100 := by omega
      have hmI : (n2 : Int) ≤ 100 := by omega
      obtain ⟨v, hv⟩ : ∃ v, (es = fs ↔ v = true) := by
        by_cases h : es = fs
        · exact ⟨true, fun _ => rfl, fun _ => h⟩
        · exact ⟨false, fun h' => absurd h' h, fun h' => absurd h' (by decide)⟩
      have hrd := hide (fun (W : World) (h : Below w.heap.size w W) => hr.below h)
      have hds := hide (fun (W : World) (h : Below w.heap.size w W) => dsame_any A A2 c c2 es fs W w.heap.size (hr.below h) (hr2.below h) (by omega) (by omega) v hv)
      have hrs := hide (fun (W : World) (h : Below w.heap.size w W) => refsame_any A A2 c c2 es fs W w.heap.size (hr.below h) (hr2.below h) (by omega) (by omega) v hv)
      have hxx := hide (show ∀ x : Bool, (x != x) = false by decide)
      by_cases hRt : RightE es
      · have hdr := hide (fun (W : World) (h : Below w.heap.size w W) => dright_any A c es W w.heap.size (hr.below h) h.size hbg (by omega) true ⟨fun _ => rfl, fun _ => hRt⟩)
        have hrr := hide (fun (W : World) (h : Below w.heap.size w W) => refdright_any A c es W w.heap.size (hr.below h) h.size hbg (by omega) true ⟨fun _ => rfl, fun _ => hRt⟩)
        have hpt := hide (put_ok A c es w w.heap.size hr (Nat.le_refl _) hbg (by omega) hRt)
        have hrp := hide (fun (W : World) (h : Below w.heap.size w W) => rput_ok A c es W w.heap.size (hr.below h) h.size (by omega) hRt)
        have hpl := putB_len es
        have hg2 := hide (fun (W : World) (A' : Option Addr) (c' : Nat) (h : Rd W W.heap.size A' (putB es).length ((putB es).map bv)) => dget_any A' c' (putB es) W h (by omega) (es, 0) (getR_put hRt))
        have hsm := hide (fun (W : World) (A1 : Option Addr) (c1 B : Nat) (h1 : RdE W B A1 es) (h2 : RdE W B A es) => refsame_any A1 A c1 c es es W B h1 h2 (by omega) (by omega) true ⟨fun _ => rfl, fun _ => rfl⟩)
        simp only at hg2
        rw [hl] at hds hrs hdr hrr hpt hrp hg2 hsm
        rw [hl2] at hds hrs
        obtain ⟨q, hq⟩ : ∃ q, (putB es).length = q := ⟨_, rfl⟩
        rw [hq] at hpt hg2 hrp
        have hqI : (q : Int) ≤ 5000 := by omega
        clear hr hr2 hml hml2 hl hl2 hbig hbig2 hRt hbg _hbg2 hpl hq hv
        go_enter Try.func6, Try.ntmps6
        go_upto_region 8 with (first
          | (go_at_call 22; (with_reducible refine hpt.out.mono ?_); rintro e w1 ⟨A1, c1, rfl, ho1, hb1⟩; have ho1 := hide ho1; have hb1 := hide hb1)
          | (go_at_call 23; (with_reducible refine (hdr.out _ hb1.out).mono ?_); rintro e w2 ⟨rfl, hb2⟩; have ho2 := hide (ho1.out.below hb2); have hb2 := hide (hb1.out.trans (hb2.mono hb1.out.size)))
          | (go_at_call 24; (with_reducible refine (hrr.out _ hb2.out).mono ?_); rintro e w3 ⟨rfl, hb3⟩; have ho3 := hide (ho2.out.below hb3); have hb3 := hide (hb2.out.trans (hb3.mono hb2.out.size)))
          | (go_at_call 25; (with_reducible refine (hds.out _ hb3.out).mono ?_); rintro e w4 ⟨rfl, hb4⟩; have ho4 := hide (ho3.out.below hb4); have hb4 := hide (hb3.out.trans (hb4.mono hb3.out.size)))
          | (go_at_call 20; (with_reducible refine (hrs.out _ hb4.out).mono ?_); rintro e w5 ⟨rfl, hb5⟩; have ho5 := hide (ho4.out.below hb5); have hb5 := hide (hb4.out.trans (hb5.mono hb4.out.size)))
          | (go_at_call 24; (with_reducible refine (hrr.out _ hb5.out).mono ?_); rintro e w6 ⟨rfl, hb6⟩; have ho6 := hide (ho5.out.below hb6); have hb6 := hide (hb5.out.trans (hb6.mono hb5.out.size))))
        clear ho1 hb1 ho2 hb2 ho3 hb3 ho4 hb4 ho5 hb5
        go_upto_region 9 with (go_at_call 18; (with_reducible refine (hg2.out _ _ _ (ho6.out.rd)).mono ?_); rintro e w7 ⟨A7, c7, rfl, ho7, hb7⟩; have hp7 := hide (ho6.out.below hb7); have ho7 := hide ho7; have hb7 := hide (hb6.out.trans (hb7.mono hb6.out.size)))
        have hb7d := hide (show Below w.heap.size w w7.drew from hb7.out.trans ⟨rfl, rfl, rfl, Nat.le_refl _, fun _ _ => rfl⟩)
        have ho7d := hide (ho7.out.chg (Chg.refl (fun _ => False) _).drew (fun _ _ h => h))
        have hp7d := hide hp7.out.drew
        have ks1 := str_of_rd hp7d.out.rd c1
        clear ho6 hb6 hb7 ho7 hp7 hg2 hpt hdr hrr hds hrs
        go_region_with (first
          | (go_at_call 21; (with_reducible refine (hcd.out _ _).mono ?_); rintro e w' ⟨rfl, rfl⟩)
          | (go_at_call 26; (with_reducible refine (hrp.out _ hb7d.out).mono ?_); rintro e w8 ⟨A8, c8, rfl, ho8, hb8⟩; have ks8 := str_of_rd ho8.rd c8; have ks18 := str_of_rd (hp7d.out.below hb8).rd c1; have ho78 := hide (ho7d.out.below hb8); have hb78 := hide (hb7d.out.trans (hb8.mono hb7d.out.size)); clear hb8 ho8)
          | (go_at_call 20; (with_reducible refine (hsm.out _ _ _ _ ho78.out.rd ((hrd.out _ hb78.out).mono hb78.out.size)).mono ?_); rintro e w9 ⟨rfl, hb9⟩; have hb79 := hide (hb78.out.trans (hb9.mono hb78.out.size)); clear hb9)
          | (go_at_call 15; (with_reducible refine (hlive.out _).mono ?_); rintro e w10 ⟨rfl, hb10⟩; have hb10 := hide (hb79.out.trans (hb10.mono hb79.out.size))))
        all_goals
          go_wp2
          go_ret
          exact ⟨rfl, hb10.out⟩
      · have hdr := hide (fun (W : World) (h : Below w.heap.size w W) => dright_any A c es W w.heap.size (hr.below h) h.size hbg (by omega) false ⟨fun h => absurd h hRt, fun h => absurd h (by decide)⟩)
        have hrr := hide (fun (W : World) (h : Below w.heap.size w W) => refdright_any A c es W w.heap.size (hr.below h) h.size hbg (by omega) false ⟨fun h => absurd h hRt, fun h => absurd h (by decide)⟩)
        have hpt := hide (put_bad A c es w w.heap.size hr (Nat.le_refl _) hbg (by omega) hRt)
        rw [hl] at hds hrs hdr hrr hpt
        rw [hl2] at hds hrs
        clear hr hr2 hml hml2 hl hl2 hbig hbig2 hRt hbg _hbg2 hv
        go_enter Try.func6, Try.ntmps6
        go_wp2_with (first
          | (go_at_call 22; (with_reducible refine hpt.out.mono ?_); rintro e w1 ⟨rfl, hb1⟩; have hb1 := hide hb1)
          | (go_at_call 23; (with_reducible refine (hdr.out _ hb1.out).mono ?_); rintro e w2 ⟨rfl, hb2⟩; have hb2 := hide (hb1.out.trans (hb2.mono hb1.out.size)); clear hb1)
          | (go_at_call 24; (with_reducible refine (hrr.out _ hb2.out).mono ?_); rintro e w3 ⟨rfl, hb3⟩; have hb3 := hide (hb2.out.trans (hb3.mono hb2.out.size)); clear hb2)
          | (go_at_call 25; (with_reducible refine (hds.out _ hb3.out).mono ?_); rintro e w4 ⟨rfl, hb4⟩; have hb4 := hide (hb3.out.trans (hb4.mono hb3.out.size)); clear hb3)
          | (go_at_call 20; (with_reducible refine (hrs.out _ hb4.out).mono ?_); rintro e w5 ⟨rfl, hb5⟩; have hb5 := hide (hb4.out.trans (hb5.mono hb4.out.size)); clear hb4)
          | (go_at_call 24; (with_reducible refine (hrr.out _ hb5.out).mono ?_); rintro e w6 ⟨rfl, hb6⟩; have hb6 := hide (hb5.out.trans (hb6.mono hb5.out.size)); clear hb5)
          | (go_at_call 21; (with_reducible refine (hcd.out _ _).mono ?_); rintro e w' ⟨rfl, rfl⟩)
          | (go_at_call 15; (with_reducible refine (hlive.out _).mono ?_); rintro e w10 ⟨rfl, hb10⟩; have hb10 := hide (hb6.out.trans (hb10.mono hb6.out.size))))
        go_ret
        exact ⟨rfl, hb10.out⟩

end Go.Proofs.Ytmpdoileiniijaa
