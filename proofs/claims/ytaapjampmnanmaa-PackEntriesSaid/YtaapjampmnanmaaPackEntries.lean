/- Layer 14 (pack): PackEntries as a walk. The conditions: where the arguments lie; how long slices can be. -/
import Derived.Test.YtaapjampmnanmaaPkREnts
import Derived.Test.YtaapjampmnanmaaPkMuch
import Derived.Test.YtaapjampmnanmaaPkLive
import Derived.Test.YtaapjampmnanmaaPkLeaves
import Derived.Test.YtaapjampmnanmaaDirSame
namespace Go.Proofs.Ytaapjampmnanmaa
open Go.RowKit
attribute [local go_sem] grw_all
set_option linter.unusedVariables false
set_option linter.unusedSimpArgs false

theorem sortE_ex (l : List Im) : ∃ er, SortE l er ∧ er ≤ 8 := by
  by_cases h1 : ∃ m ∈ l, ¬ m.ok
  · refine ⟨8, ⟨fun _ => rfl, fun h => ?_, fun h => ?_, fun h => ?_⟩, by omega⟩ <;> (obtain ⟨m, hm, hn⟩ := h1; exact absurd (h m hm) hn)
  by_cases h2 : l = [] ∨ (∃ m ∈ l, m.n = 0) ∨ ∃ (i j : Nat) (hi : i < l.length) (hj : j < l.length), i < j ∧ l[i].num = l[j].num
  · refine ⟨3, ⟨fun h => absurd h h1, fun _ _ => rfl, fun _ h3 h4 h5 _ => ?_, fun _ h3 h4 h5 _ => ?_⟩, by omega⟩ <;>
      (rcases h2 with h | ⟨m, hm, h⟩ | ⟨i, j, hi, hj, hij, h⟩
       · exact absurd h h3
       · exact absurd h (h4 m hm)
       · exact absurd h (h5 i j hi hj hij))
  by_cases h3 : ∃ m ∈ l, 1048576 < m.n
  · refine ⟨5, ⟨fun h => absurd h h1, fun _ h => absurd h h2, fun _ _ _ _ h => ?_, fun _ _ _ _ _ => rfl⟩, by omega⟩
    obtain ⟨m, hm, h4⟩ := h3
    have := h m hm
    omega
  · exact ⟨0, ⟨fun h => absurd h h1, fun _ h => absurd h h2, fun _ _ _ _ _ => rfl, fun _ _ _ _ h => absurd h h3⟩, by omega⟩
theorem SortE.small {l : List Im} {er : Nat} (h : SortE l er) (h0 : er = 0) : ¬ ∃ m ∈ l, 1048576 < m.n := by
  intro hb
  have h1 := sorted_ok h h0
  have h2 : ¬ (l = [] ∨ (∃ m ∈ l, m.n = 0) ∨ ∃ (i j : Nat) (hi : i < l.length) (hj : j < l.length), i < j ∧ l[i].num = l[j].num) := fun hf => by
    have := h.form h1 hf
    omega
  have := h.long h1 (fun e => h2 (.inl e)) (fun m hm e => h2 (.inr (.inl ⟨m, hm, e⟩))) (fun i j hi hj hij e => h2 (.inr (.inr ⟨i, j, hi, hj, hij, e⟩))) hb
  omega
theorem le_nsum (l : List Im) : ∀ m ∈ l, m.n ≤ (l.map Im.n).sum := by
  induction l with
  | nil => intro m hm; cases hm
  | cons x t ih =>
    intro m hm
    rw [List.map_cons, List.sum_cons]
    rcases List.mem_cons.1 hm with rfl | h
    · omega
    · have := ih m h
      omega
theorem max_ex (f : Nat → Nat) : ∀ k, ∃ M, ∀ j, j < k → f j ≤ M
  | 0 => ⟨0, fun j h => absurd h (Nat.not_lt_zero _)⟩
  | k + 1 => by
    obtain ⟨M, hM⟩ := max_ex f k
    refine ⟨max M (f k), fun j hj => ?_⟩
    rcases (show j < k ∨ j = k by omega) with h | rfl
    · have := hM j h
      omega
    · omega
theorem upto_few (pk : List UInt8 → List UInt8) (X : Nat → It) (k : Nat) : (EnS.upto pk X k).out.length ≤ k ∧ (EnS.upto pk X k).texts.length ≤ k := by
  obtain ⟨M, hM⟩ := max_ex (fun j => (X j).id) k
  have := EnS.fits pk X M k hM
  exact ⟨this.outs, this.txt⟩
/-- What Entries returns, whether there is an error or not. -/
def UEnt (G : Nat) (w : World) (er : Nat) (out : List Ent) (cs : List (List UInt8)) (e : Ending) (w' : World) : Prop :=
  ∃ A9 c9 A10 c10 vs, e = .returned (.tuple #[.slice A9 out.length c9, .slice A10 vs.length c10, .int .i64 (er : Int)]) ∧ OwE w' G A9 c9 out ∧ OwR w' G 40 1 A10 vs.length c10 (vs.map fun s => [Sl.val s]) ∧ Byts w' G vs cs ∧ Below G w w'
theorem ent_uni {pk : List UInt8 → List UInt8} {G : Nat} {w : World} {l : List Im} {d : Im} {er : Nat} {e : Ending} {w' : World} (h : EntP pk G w l d er e w') :
    ∃ X out cs, UEnt G w er out cs e w' ∧ (er = 0 → St.Rch 0 l.length (itf l d) X ∧ St.Srt It.id 0 l.length X) ∧ (er = 0 → out = (EnS.upto pk X l.length).out ∧ cs = (EnS.upto pk X l.length).texts.map pk) ∧ (er ≠ 0 → out = [] ∧ cs = []) ∧ out.length ≤ l.length ∧ cs.length ≤ l.length := by
  obtain ⟨hb, ⟨he, rfl⟩ | ⟨he, X, A9, c9, A10, c10, vs, hR, hS, rfl, ho, hr, hy⟩⟩ := h
  · exact ⟨fun _ => d.it, [], [], ⟨none, 0, none, 0, [], rfl, OwE.nil _ _, OwR.nil _ _ _ _, Byts.nil _ _, hb⟩, fun h => absurd h he, fun h => absurd h he, fun _ => ⟨rfl, rfl⟩, Nat.zero_le _, Nat.zero_le _⟩
  · have hf := upto_few pk X l.length
    exact ⟨X, _, _, ⟨A9, c9, A10, c10, vs, by rw [he]; rfl, ho, hr, hy, hb⟩, fun _ => ⟨hR, hS⟩, fun _ => ⟨rfl, rfl⟩, fun h => absurd he h, hf.1, by rw [List.length_map]; exact hf.2⟩
theorem rent_uni {pk : List UInt8 → List UInt8} {G : Nat} {w : World} {l : List Im} {er : Nat} {X : Nat → It} {e : Ending} {w' : World} (h : REntP pk G w l er X e w') (out : List Ent) (cs : List (List UInt8))
    (h0 : er = 0 → out = (EnS.upto pk X l.length).out ∧ cs = (EnS.upto pk X l.length).texts.map pk) (h1 : er ≠ 0 → out = [] ∧ cs = []) : UEnt G w er out cs e w' := by
  obtain ⟨hb, ⟨he, rfl⟩ | ⟨he, A9, c9, A10, c10, vs, rfl, ho, hr, hy⟩⟩ := h
  · obtain ⟨rfl, rfl⟩ := h1 he
    exact ⟨none, 0, none, 0, [], rfl, OwE.nil _ _, OwR.nil _ _ _ _, Byts.nil _ _, hb⟩
  · obtain ⟨rfl, rfl⟩ := h0 he
    exact ⟨A9, c9, A10, c10, vs, by rw [he]; rfl, ho, hr, hy, hb⟩
theorem chk_few (n : Nat) : ∀ (f : Nat) (l : List Ent), ∀ p ∈ chk n f l, p.length ≤ l.length
  | 0, l, p, h => by cases h
  | f + 1, l, p, h => by
    rw [chk] at h
    split at h
    · cases h
    · rcases List.mem_cons.1 h with rfl | h
      · rw [List.length_take]; omega
      · have := chk_few n f _ p h
        rw [List.length_drop] at this
        omega
theorem chk_len (n : Nat) : ∀ (f : Nat) (l : List Ent), (chk n f l).length ≤ f
  | 0, l => Nat.le_refl _
  | f + 1, l => by
    rw [chk]
    split
    · exact Nat.zero_le _
    · have := chk_len n f (l.drop n)
      rw [List.length_cons]
      omega

theorem RdIm.mono {w : World} {B B' : Nat} {A : Option Addr} {l : List Im} (h : RdIm w B A l) (hb : B ≤ B') : RdIm w B' A l := by
  intro j hj
  obtain ⟨b, o, h1, h2, r⟩ := h j hj
  exact ⟨b, o, h1, Nat.lt_of_lt_of_le h2 hb, r⟩
theorem RdE.up {w : World} {B B' : Nat} {A : Option Addr} {es : List Ent} (h : RdE w B A es) (hb : B ≤ B') : RdE w B' A es := by
  intro j hj
  obtain ⟨b, o, h1, h2, r⟩ := h j hj
  exact ⟨b, o, h1, Nat.lt_of_lt_of_le h2 hb, r⟩
/-- One content, out of the slice of contents. -/
theorem byts_at {W : World} {G c : Nat} {A : Option Addr} {vs : List Sl} {cs : List (List UInt8)} (hr : OwR W G 40 1 A vs.length c (vs.map fun s => [Sl.val s])) (hb : Byts W G vs cs) (hG : G ≤ W.heap.size) (k : Nat) (hk : k < vs.length) (hkc : k < cs.length) :
    ∃ g va m vc, A = some ⟨g, 0, none⟩ ∧ W.cell? ⟨g, k, none⟩ = some (.slice va m vc) ∧ Rd W W.heap.size va m (cs[k].map bv) := by
  obtain ⟨g, v, hA, hv, hc, _⟩ := hr.cells k hk 0 (by omega)
  rw [Nat.mul_one, Nat.add_zero] at hc
  rw [List.getElem_map] at hv
  cases hv
  exact ⟨g, vs[k].A, vs[k].n, vs[k].c, hA, hc, (hb.2 k hk hkc).rd hG⟩
/-- One part, out of the slice of parts. -/
theorem parts_at {W : World} {G B c : Nat} {A : Option Addr} {vs : List Sl} {cs : List (List Ent)} (hr : OwR W G 23 1 A vs.length c (vs.map fun s => [Sl.val s])) (hb : RdC W B vs cs) (k : Nat) (hk : k < vs.length) (hkc : k < cs.length) :
    ∃ g va vc, A = some ⟨g, 0, none⟩ ∧ W.cell? ⟨g, k, none⟩ = some (.slice va cs[k].length vc) ∧ RdE W B va cs[k] := by
  obtain ⟨g, v, hA, hv, hc, _⟩ := hr.cells k hk 0 (by omega)
  rw [Nat.mul_one, Nat.add_zero] at hc
  rw [List.getElem_map] at hv
  cases hv
  obtain ⟨h1, h2⟩ := hb.2 k hk hkc
  refine ⟨g, vs[k].A, vs[k].c, hA, ?_, h2⟩
  rw [hc, ← h1]
  rfl

set_option maxRecDepth 100000 in
set_option maxHeartbeats 8000000 in
theorem packentries_walk (A : Option Addr) (n c : Nat) (l : List Im) (gz : Bool) (A2 : Option Addr) (n2 c2 : Nat) (es : List Ent) (nn : Int) (w : World) (hl : l.length = n) (hr : RdIm w w.heap.size A l)
    (hm : ∀ m ∈ l, m.n ≤ m.c ∧ m.n ≤ maxLen ∧ Rd w w.heap.size m.A m.n (m.bs.map bv)) (hml : n ≤ maxLen) (hl2 : es.length = n2) (hr2 : RdE w w.heap.size A2 es) (hc2 : n2 ≤ c2) (hml2 : n2 ≤ maxLen) (hI : nn ≤ 9223372036854775807) :
    Calls Try.prog 3 #[.slice A n c, .bool gz, .slice A2 n2 c2, .int .i64 nn] w fun e w' => e = .returned (.bool true) ∧ Below w.heap.size w w' := by
  obtain ⟨G, hG⟩ : ∃ G, w.heap.size = G := ⟨_, rfl⟩
  rw [hG] at hr hm hr2 ⊢
  have hmu := hide (show Calls Try.prog 5 #[.slice A n c, .agg #[.bool false, .int .i64 0, .int .i64 0, .int .i64 0, .int .i64 0, .int .i64 0, .int .i64 0, .int .i64 0, .int .i64 0, .int .i64 0, .int .i64 0, .string ⟨#[]⟩]] w (MuchP l 0 G w) from by
    rw [← hl, ← hG]
    exact much_any A c G l ⟨false, 0, 0, 0, 0, 0, 0, 0, 0, 0, 0, []⟩ w hr (by omega) (by rw [hl]; exact hml) (fun m h => (hm m h).2.1) (Nat.zero_le _))
  have hlv := hide (fun (W : World) (hb : Below G w W) => (k14live_any W).mono fun e w' ⟨he, hb'⟩ => (show e = Ending.returned (.bool true) ∧ Below G w w' from ⟨he, hb.trans (hb'.mono (by rw [← hG]; exact hb.size))⟩))
  obtain ⟨er, hE, her⟩ := sortE_ex l
  replace hr := hide hr
  replace hr2 := hide hr2
  replace hm := hide hm
  replace hE := hide hE
  replace hml2 := hide hml2
  replace hc2 := hide hc2
  replace hl := hide hl
  replace hl2 := hide hl2
  clear hml
  go_enter Try.func3, Try.ntmps3
  by_cases h100 : n2 ≤ 100
  case neg =>
    have hI2 : decide ((100 : Int) < (n2 : Int)) = true := by rw [decide_eq_true_eq]; omega
    replace h100 := hide h100
    go_wp2_with (first
      | (go_at_call 5; (with_reducible refine hmu.out.mono ?_); rintro e w1 ⟨⟨b, rfl, -⟩, hb1⟩; replace hb1 := hide hb1; cases b)
      | (go_at_call 6; (with_reducible refine (hlv.out _ hb1.out).mono ?_); rintro e w2 ⟨rfl, hb2⟩; replace hb2 := hide hb2))
    all_goals go_ret
    all_goals exact ⟨rfl, hb2.out⟩
  case pos =>
    have hI2 : decide ((100 : Int) < (n2 : Int)) = false := by rw [decide_eq_false_iff_not]; omega
    replace h100 := hide h100
    go_upto_region 3 with (first
      | (go_at_call 5; (with_reducible refine hmu.out.mono ?_); rintro e w1 ⟨⟨b, rfl, hbf⟩, hb1⟩; replace hb1 := hide hb1; replace hbf := hide hbf; cases b)
      | (go_at_call 6; (with_reducible refine (hlv.out _ hb1.out).mono ?_); rintro e w2 ⟨rfl, hb2⟩; replace hb2 := hide hb2))
    · obtain ⟨h40, hsum⟩ := hbf.out (by first | rfl | trivial)
      have hsz := hide (fun (W : World) (hb : Below G w W) => show G ≤ W.heap.size from by rw [← hG]; exact hb.size)
      have hby := hide (fun (W : World) (hb : Below G w W) (h0 : er = 0) => show ImBy W W.heap.size l from fun m h => by
        obtain ⟨h1, h2, h3⟩ := hm.out m h
        have h4 := hE.out.small h0
        have h5 := le_nsum l m h
        refine ⟨(h3.below hb).mono (hsz.out W hb), h1, ?_⟩
        rcases hsum with h6 | h6 | h6
        · omega
        · omega
        · exact absurd h6 h4)
      have hrW := hide (fun (W : World) (hb : Below G w W) => (hr.out.below hb).mono (hsz.out W hb))
      have hrE := hide (fun (W : World) (hb : Below G w W) => (hr2.out.below hb).up (hsz.out W hb))
      have hen1 := hide (entries_any A c l gz w1 (hrW.out _ hb1.out) h40 ⟨0, 0, 0, none, 0, 0, []⟩ er hE.out (hby.out _ hb1.out) her)
      have hen2 := hide (fun (W : World) (hb : Below G w W) => rentries_any A c l gz W (hrW.out _ hb) h40 ⟨0, 0, 0, none, 0, 0, []⟩ er hE.out (hby.out _ hb) her)
      have hle1 := hide (fun (W : World) (hb : Below G w W) => pleaves_any A2 n2 c2 es nn W hl2.out (hrE.out _ hb) hc2.out (by have := h100.out; omega) hI)
      have hle2 := hide (fun (W : World) (hb : Below G w W) => rleaves_any A2 c2 es nn W (hrE.out _ hb) (by rw [hl2.out]; exact hc2.out) (by rw [hl2.out]; have := h100.out; omega) hI)
      rw [hl.out] at hen1 hen2
      rw [hl2.out] at hle2
      obtain ⟨ch, hch⟩ : ∃ ch, chks nn es = ch := ⟨_, rfl⟩
      have hchl := hide (show (∀ p ∈ ch, p.length ≤ 100) ∧ ch.length ≤ 100 from by
        rw [← hch]
        unfold chks
        refine ⟨fun p hp => ?_, ?_⟩
        · have := chk_few _ _ _ p hp
          have := hl2.out
          have := h100.out
          omega
        · have := chk_len (if nn < 1 then es.length else nn.toNat) es.length es
          have := hl2.out
          have := h100.out
          omega)
      rw [hch] at hle1 hle2
      replace h40 := hide h40
      clear hsum hbf hmu hch
      go_upto_region 6 with (first
        | (go_at_call 7; (with_reducible refine hen1.out.mono ?_); rintro e w2 hP; obtain ⟨X, out, cs, ⟨A9, c9, A10, c10, vs, rfl, ho, hro, hbt, hb2⟩, hX, h0, h1, hol, hcl⟩ := ent_uni hP; clear hP; rw [hl.out] at hX; have hz2 := hide hb2.size; have b2 := hide (hb1.out.trans (hb2.mono (hsz.out _ hb1.out))); have hr3 := hide (hen2.out w2 b2.out X hX); replace hol := hide hol; replace hcl := hide hcl; replace h0 := hide h0; replace h1 := hide h1; clear hX hb2; replace ho := hide ho; replace hro := hide hro; replace hbt := hide hbt)
        | (go_at_call 8; (with_reducible refine hr3.out.mono ?_); rintro e w3 hP; obtain ⟨B9, d9, B10, d10, us, rfl, ho2, hro2, hbt2, hb3⟩ := rent_uni hP out cs h0.out h1.out; clear hP; have hz3 := hide hb3.size; have b3 := hide (b2.out.trans (hb3.mono (hsz.out _ b2.out))); replace ho := hide (ho.out.below hb3); replace hro := hide (hro.out.below hb3); replace hbt := hide (hbt.out.below hb3); clear hb3; replace ho2 := hide ho2; replace hro2 := hide hro2; replace hbt2 := hide hbt2; have hl3 := hide (hle1.out w3 b3.out))
        | (go_at_call 9; (with_reducible refine hl3.out.mono ?_); rintro e w4 ⟨A5, c5, ps, rfl, hor, hrc, hb4⟩; have hz4 := hide hb4.size; have b4 := hide (b3.out.trans (hb4.mono (hsz.out _ b3.out))); replace ho := hide (ho.out.below hb4); replace hro := hide (hro.out.below hb4); replace hbt := hide (hbt.out.below hb4); replace ho2 := hide (ho2.out.below hb4); replace hro2 := hide (hro2.out.below hb4); replace hbt2 := hide (hbt2.out.below hb4); clear hb4; replace hor := hide hor; replace hrc := hide hrc; have hl4 := hide (hle2.out w4 b4.out))
        | (go_at_call 10; (with_reducible refine hl4.out.mono ?_); rintro e w5 ⟨A6, c6, qs, rfl, hor2, hrc2, hb5⟩; have b5 := hide (b4.out.trans (hb5.mono (hsz.out _ b4.out))); replace ho := hide (ho.out.below hb5); replace hro := hide (hro.out.below hb5); replace hbt := hide (hbt.out.below hb5); replace ho2 := hide (ho2.out.below hb5); replace hro2 := hide (hro2.out.below hb5); replace hbt2 := hide (hbt2.out.below hb5); replace hor := hide (hor.out.below hb5); have hs45 := hide hb5.size; replace hrc := hide (hrc.out.below hb5); clear hb5; replace hor2 := hide hor2; replace hrc2 := hide hrc2))
      have hsm := hide (refsame_any A9 B9 c9 d9 out out w5 w5.heap.size ho.out.rd ho2.out.rd (by have := hol.out; have := h40.out; omega) (by have := hol.out; have := h40.out; omega) true (by simp))
      have hnv : ((vs.length : Int) != (us.length : Int)) = false := by have := hbt.out.1; have := hbt2.out.1; rw [bne_eq_false_iff_eq]; omega
      have hnp : ((ps.length : Int) != (qs.length : Int)) = false := by have := hrc.out.1; have := hrc2.out.1; rw [bne_eq_false_iff_eq]; omega
      have hnv2 : (vs.length != us.length) = false := by have := hbt.out.1; have := hbt2.out.1; rw [bne_eq_false_iff_eq]; omega
      have hnp2 : (ps.length != qs.length) = false := by have := hrc.out.1; have := hrc2.out.1; rw [bne_eq_false_iff_eq]; omega
      clear hen1 hen2 hle1 hle2 hr3 hl3 hl4
      go_upto_region 8 with (first
        | (go_at_call 11; (with_reducible refine hsm.out.mono ?_); rintro e w6 ⟨rfl, hb6⟩; have hz6 := hide hb6.size; have b6 := hide (b5.out.trans (hb6.mono (hsz.out _ b5.out))); replace hro := hide (hro.out.below hb6); replace hbt := hide (hbt.out.below hb6); replace hro2 := hide (hro2.out.below hb6); replace hbt2 := hide (hbt2.out.below hb6); replace hor := hide (hor.out.below hb6); replace hrc := hide (hrc.out.below (hb6.mono hs45.out)); replace hor2 := hide (hor2.out.below hb6); have hrc3 := hide (hrc2.out.below (hb6.mono hs45.out)); clear hrc2 hb6)
        | (go_at_call 12; (with_reducible refine (k14code_any _ _).mono ?_); rintro e w' ⟨rfl, rfl⟩))
      obtain ⟨V, hV⟩ : ∃ V, vs.length = V := ⟨_, rfl⟩
      have hVu := hide (show us.length = V ∧ cs.length = V ∧ V ≤ 40 from by have := hbt.out.1; have := hbt2.out.1; have := hcl.out; have := h40.out; omega)
      have hPq := hide (show qs.length = ps.length ∧ ch.length = ps.length ∧ ps.length ≤ 100 from by have := hrc.out.1; have := hrc3.out.1; have := hchl.out.2; omega)
      have hsize := hide (fun (W : World) (hb : Below w6.heap.size w6 W) => show w1.heap.size ≤ W.heap.size ∧ w2.heap.size ≤ W.heap.size from by have := hb.size; have := hz2.out; have := hz3.out; have := hz4.out; have := hs45.out; have := hz6.out; omega)
      clear hnv hnp hnv2 hnp2 hsm ho ho2
      go_wp2
      go_loopw [17] (fun s17 wr => ∃ k : Nat, k ≤ V ∧ s17 = .int .i64 (k : Int) ∧ Hid (Below w6.heap.size w6 wr)) (fun s17 _ => V - (intOf s17).toNat)
      case atStart => exact ⟨0, Nat.zero_le _, rfl, hide (Below.refl _ _)⟩
      case round =>
        obtain ⟨k, hk, rfl, hB⟩ := hrel
        by_cases hlt : k < V
        · have hkI : (k : Int) < (vs.length : Int) := by omega
          have hkU : (k : Int) < (us.length : Int) := by have := hVu.out; omega
          have hkc : k < cs.length := by have := hVu.out; omega
          obtain ⟨g1, va, m1, vc, rfl, e1, r1⟩ := byts_at (hro.out.below hB.out) (hbt.out.below hB.out) (hsize.out _ hB.out).1 k (by omega) hkc
          obtain ⟨g2, ua, m2, uc, rfl, e2, r2⟩ := byts_at (hro2.out.below hB.out) (hbt2.out.below hB.out) (hsize.out _ hB.out).2 k (by have := hVu.out; omega) hkc
          generalize cs[k] = bb at *
          have hc1 := fun n => str_pk (w := wr.drewN n) (r1.below ⟨rfl, rfl, rfl, Nat.le_refl _, fun _ _ => rfl⟩) vc
          have hc2 := fun n => str_pk (w := wr.drewN n) (r2.below ⟨rfl, rfl, rfl, Nat.le_refl _, fun _ _ => rfl⟩) uc
          have hkw : IntKind.i64.wrap ((k : Int) + 1) = ((k + 1 : Nat) : Int) := by have := hVu.out; rw [IntKind.wrap_i64]; omega
          clear r1 r2
          go_upto_region 11 with fail
          go_quiet (fail)
          go_wp2
          go_roundw
          case rel => exact ⟨k + 1, by omega, by go_num, hide (below_drewN hB.out _)⟩
          case measure => simp [intOf] <;> omega
        · obtain rfl : k = V := by omega
          have hksz := hide (show w6.heap.size ≤ wr.heap.size from hB.out.size)
          have hlvr := hide (fun (W : World) (hb : Below w6.heap.size w6 W) => hlv.out W (b6.out.trans (hb.mono (hsz.out _ b6.out))))
          go_wp2
          go_loopw [18] (fun s18 wz => ∃ j : Nat, j ≤ ps.length ∧ s18 = .int .i64 (j : Int) ∧ Hid (Below w6.heap.size w6 wz)) (fun s18 _ => ps.length - (intOf s18).toNat)
          case atStart => exact ⟨0, Nat.zero_le _, rfl, hB⟩
          case round =>
            clear hB hksz
            obtain ⟨j, hj, rfl, hB⟩ := hrel
            by_cases hlt2 : j < ps.length
            · have hjI : (j : Int) < (ps.length : Int) := by omega
              have hjU : (j : Int) < (qs.length : Int) := by have := hPq.out; omega
              have hjc : j < ch.length := by have := hPq.out; omega
              obtain ⟨g1, va, vc, rfl, e1, r1⟩ := parts_at (hor.out.below hB.out) (hrc.out.below (hB.out.mono (by have := hs45.out; have := hz6.out; omega))) j hlt2 hjc
              obtain ⟨g2, ua, uc, rfl, e2, r2⟩ := parts_at (hor2.out.below hB.out) (hrc3.out.below (hB.out.mono (by have := hs45.out; have := hz6.out; omega))) j (by have := hPq.out; omega) hjc
              have hpl := hchl.out.1 _ (List.getElem_mem hjc)
              generalize ch[j] = pp at *
              have hss := hide (fun (W : World) (hb : Below wr.heap.size wr W) => refsame_any va ua vc uc pp pp W w4.heap.size (r1.below (hb.mono (by have := hs45.out; have := hz6.out; have := hB.out.size; omega))) (r2.below (hb.mono (by have := hs45.out; have := hz6.out; have := hB.out.size; omega))) (by omega) (by omega) true (by simp))
              obtain ⟨pl, hpl2⟩ : ∃ x, pp.length = x := ⟨_, rfl⟩
              rw [hpl2] at e1 e2 hss
              have hkw : IntKind.i64.wrap ((j : Int) + 1) = ((j + 1 : Nat) : Int) := by have := hPq.out; rw [IntKind.wrap_i64]; omega
              clear hpl hpl2 r1 r2
              go_upto_region 16 with fail
              refine wp_region_grw (by kernel_rfl) (by kernel_rfl) ?_
              try simp only [Act.put]
              repeat (first
                | go_big_quiet_skip
                | (go_big_quiet_want
                   first
                     | (with_reducible refine quiet_load_cell 23 (.tmp 97) (by rfl) g1 j _ (by first | rfl | (simp [go_sem]; done)) _ Try.underlying23 rfl e1 ?_
                        simp only [Act.put, List.setIfInBounds_toArray, List.set_cons_zero, List.set_cons_succ]
                        go_big_quiet_on)
                     | (with_reducible refine quiet_load_cell 23 (.tmp 101) (by rfl) g2 j _ (by first | rfl | (simp [go_sem]; done)) _ Try.underlying23 rfl e2 ?_
                        simp only [Act.put, List.setIfInBounds_toArray, List.set_cons_zero, List.set_cons_succ]
                        go_big_quiet_on)
                     | (go_big_quiet_op
                        go_big_quiet_on)
                     | (go_big_quiet_op
                        apply Exists.intro
                        refine ⟨fun w' hw' => ?_, ?_⟩
                        · (go_at_call 11; exact grw_step hw' (hss.out w' hw'))
                        go_big_quiet_on)))
              refine wpQuiet_nil ?_
              intro w9 hw9
              have hB9 := hide (hB.out.trans (hw9.out.mono hB.out.size))
              go_wp2
              go_roundw
              case rel => exact ⟨j + 1, by omega, by go_num, hB9⟩
              case measure => simp [intOf] <;> omega
            · obtain rfl : j = ps.length := by omega
              have hend := hide (hlvr.out wr hB.out)
              clear hlvr
              go_wp2_with (go_at_call 6; (with_reducible refine hend.out.mono ?_); rintro e w9 ⟨rfl, hb9⟩; replace hb9 := hide hb9)
              go_ret
              exact ⟨rfl, hb9.out⟩
    · go_ret
      exact ⟨rfl, hb2.out⟩

end Go.Proofs.Ytaapjampmnanmaa
