/- Observe of the reference. -/
import Derived.Test.YtbcbffmbpoffpaaRef
import Derived.Deep.DeepCutAuto
import Derived.Deep.RegionWith
namespace Go.Proofs.Ytbcbffmbpoffpaa
open Go.RowKit Go.Maps

/-- The users with one at hand, and where it stands. -/
def withU (U : Users) (u : Str) : Users := if (alook U u).isSome then U else U ++ [(u, prof0)]
theorem at_cases {U : Users} (hu : AUniq U) (u : Str) : (idx (atB u) U = -1 ∧ alook U u = none) ∨ ∃ k, ∃ h : k < U.length, idx (atB u) U = k ∧ alook U u = some U[k].2 ∧ U[k].1 = u := by
  rcases idx_split (p := atB u) (l := U) with ⟨e, hn⟩ | ⟨k, hk, e, hp, hn⟩
  · exact .inl ⟨e, alook_none.2 (fun q hq he => by have := hn q hq; simp [atB, he] at this)⟩
  · have h1 : U[k].1 = u := by simpa [atB] using hp
    refine .inr ⟨k, hk, e, ?_, h1⟩
    exact alook_of_mem hu (by rw [← h1]; exact List.getElem_mem hk)
theorem put_at {U : Users} (hu : AUniq U) {u : Str} {k : Nat} (hk : k < U.length) (h1 : U[k].1 = u) (p : Prof) : U.set k (u, p) = aput U u p := by
  have hs : (alook U u).isSome = true := by
    rw [alook_of_mem hu (k := u) (v := U[k].2) (by rw [← h1]; exact List.getElem_mem hk)]; rfl
  unfold aput
  rw [if_pos hs]
  apply List.ext_getElem (by simp)
  intro i hi1 hi2
  rw [List.getElem_set, List.getElem_map]
  split
  · rename_i e; subst e; rw [if_pos h1]
  · rename_i e
    rw [if_neg (fun e2 => ?_)]
    have hil : i < U.length := by simpa using hi2
    have := List.pairwise_iff_getElem.1 hu
    rcases Nat.lt_or_gt_of_ne e with hlt | hlt
    · exact this k i hk hil hlt (h1.trans e2.symm)
    · exact this i k hil hk hlt (e2.trans h1.symm)
theorem put_new {U : Users} {u : Str} (h : alook U u = none) (p : Prof) : (U ++ [(u, prof0)]).set U.length (u, p) = aput U u p := by
  unfold aput
  rw [h]
  simp

theorem OwnL.of_row {α : Type} {E : TypeId} {sz : Nat} {enc : α → List Value} {w : World} {a : Option Addr} {cap : Nat} {l : List α} (h : w.ownsRow 0 E sz (.slice a l.length cap) l.length (rowV enc l)) : OwnL E sz enc { w with heap := #[] } w a cap l :=
  ⟨h, ⟨rfl, rfl, rfl, Nat.zero_le _, fun k hk => by simp at hk⟩, fun _ _ => Nat.zero_le _⟩
theorem RefR.push {w w5 : World} {qb : Nat} {a a' : Option Addr} {cap cap' : Nat} {X : List Raw} {U : Users} (h : RefR w qb a cap X) (hl : Like w X U) {O : Obj} {x : Raw} {e : Str × Prof} (hx : IsP w x e)
    (ho : w5.ownsRow 0 74 4 (.slice a' (X ++ [x]).length cap') (X ++ [x]).length (rowV encR (X ++ [x]))) (k5 : Kept (fp a) (w.alloc O) w5) (f5 : ∀ i ∈ fp a', i ∈ fp a ∨ (w.alloc O).heap.size ≤ i) :
    RefAt w (w5.setCell ⟨qb, 0, none⟩ (.slice a' (X ++ [x]).length cap')) qb a a' cap' (X ++ [x]) (U ++ [e]) := by
  have hqb := lt_of_heap h.blk
  have k15 : Kept (fp a) w w5 := (((Kept.refl [] w).alloc O).mono (T := fp a) (by simp)).trans k5 (fun i hi => .inl hi)
  have hqa' : qb ∉ fp a' := by
    intro hm
    rcases f5 qb hm with h1 | h1
    · exact h.ne h1
    · simp at h1; omega
  have hs : Kept [qb] w5 (w5.setCell ⟨qb, 0, none⟩ (.slice a' (X ++ [x]).length cap')) := (Kept.refl [qb] w5).setCell (.inl (by simp)) _
  have hb5 := k15.at h.blk h.ne
  have hns1 : NoStr w (fp a) := fun i hi => h.nostr i (by simp [hi])
  have hns2 : NoStr w5 [qb] := by
    intro i hi cur hc
    simp at hi
    subst hi
    rw [hb5] at hc
    injection hc with hc; injection hc with _ hc _
    exact absurd hc (by decide)
  refine ⟨⟨?_, row_kept ho hs (fun i hi hm => hqa' (by simp at hm; subst hm; exact hi))⟩, ((hl.push hx).kept k15 hns1).kept hs hns2, (k15.mono (T := qb :: fp a) (fun i hi => .inl (by simp [hi]))).setCell (.inl (by simp)) _, fun i hi => ?_⟩
  · simp [World.setCell, Array.getElem?_modify, hb5]
  · rcases f5 i hi with h1 | h1
    · exact .inl h1
    · right; simp at h1; omega
theorem isP0 (w : World) (u : Str) : IsP w ⟨u, none, 0, 0, none, 0, 0, 0⟩ (u, prof0) := ⟨rfl, rfl, rfl, rfl, StrsB.nil w, StrsB.nil w⟩

def RefOut (w w' : World) (qb : Nat) (a : Option Addr) (U : Users) : Prop := ∃ a' cap' X', RefAt w w' qb a a' cap' X' U

set_option maxHeartbeats 4000000 in
set_option maxRecDepth 100000 in
theorem robserve_any {w : World} {qb : Nat} {a : Option Addr} {cap : Nat} {X : List Raw} {U : Users} (h : RefR w qb a cap X) (hl : Like w X U) (hfit : AllFit U) (huq : AUniq U) (hlen : U.length ≤ 256) (u d p : ByteArray) (hu : u.size ≤ maxLen) (hd : d.size ≤ maxLen) (hp : p.size ≤ maxLen) (now : Int) :
    Calls Try.prog 19 #[.pointer (some ⟨qb, 0, none⟩), .string u, .string d, .string p, .int .i64 now] w fun e w' => e = .returned (.int .i64 (obsC U u.data.toList d.data.toList p.data.toList)) ∧ RefOut w w' qb a (obsU U u.data.toList d.data.toList p.data.toList now) := by
  obtain ⟨c0, c1⟩ := h.head
  have HU := hid (rword_any u w hu)
  have HD := hid (rword_any d w hd)
  have HP := hid (rword_any p w hp)
  have HS0 := hid (RefAt.start h hl)
  have bad : ¬ (wordB u.data.toList && wordB d.data.toList && wordB p.data.toList) = true → obsC U u.data.toList d.data.toList p.data.toList = 5 := fun hn => by unfold obsC; rw [if_neg hn]
  have HBAD := hid bad
  clear bad
  by_cases hwu : wordB u.data.toList = true
  · rw [hwu] at HU
    by_cases hwd : wordB d.data.toList = true
    · rw [hwd] at HD
      by_cases hwp : wordB p.data.toList = true
      · rw [hwp] at HP
        have HAT := hid (rat_any h hl hlen u)
        have hll := hl.len
        by_cases hroom : (alook U u.data.toList).isSome = true ∨ U.length < 256
        · have E1 := hid (show obsC U u.data.toList d.data.toList p.data.toList = 0 by unfold obsC; rw [hwu, hwd, hwp]; simp only [Bool.and_self, if_true]; rw [if_pos (by simpa using hroom)])
          have E2 := hid (show obsU U u.data.toList d.data.toList p.data.toList now = aput U u.data.toList (newP U u.data.toList d.data.toList p.data.toList now) by unfold obsU; rw [if_pos E1.out])
          have hf := prof_fits hfit u.data.toList
          have HNP := hid (show newP U u.data.toList d.data.toList p.data.toList now = ⟨movedL (prof U u.data.toList).dev d.data.toList, movedL (prof U u.data.toList).pl p.data.toList, lim now⟩ from rfl)
          clear hwu hwd hwp
          have HC := hid (at_cases huq u.data.toList)
          have HR := hid hroom
          have HLL := hid hll
          have HUQ := hid huq
          have HLEN := hid hlen
          clear h hl hfit huq hroom hll hlen
          go_enter Try.func19, Try.ntmps19
          go_wp2_with fail
          refine HU.out.mono ?_
          rintro e w' ⟨rfl, rfl⟩
          go_wp2_with fail
          refine HD.out.mono ?_
          rintro e w' ⟨rfl, rfl⟩
          go_wp2_with fail
          refine HP.out.mono ?_
          rintro e w' ⟨rfl, rfl⟩
          go_wp2_with fail
          refine HAT.out.mono ?_
          rintro e w' ⟨rfl, rfl⟩
          go_upto_if 38 with fail
          go_cut [11] (fun s11 wx => ∃ (k : Nat) (a' : Option Addr) (cap' : Nat) (X' : List Raw) (U' : Users), s11 = .int .i64 k ∧ k < X'.length ∧ X'.length ≤ 257 ∧ RefAt w wx qb a a' cap' X' U' ∧ (∃ hk : k < U'.length, U'[k] = (u.data.toList, prof U u.data.toList)) ∧ (∀ q, U'.set k (u.data.toList, q) = aput U u.data.toList q))
          case first =>
            rcases HC.out with ⟨e, hn⟩ | ⟨k, hk, e, hs, h1⟩
            · rw [e]
              have hX : X.length < 256 := by
                have := HLL.out
                rcases HR.out with h1 | h1
                · rw [hn] at h1; cases h1
                · omega
              have HN := hid hn
              clear e hn
              obtain ⟨N, HNN⟩ : ∃ N, Hid (N = X ++ [(⟨u.data.toList, none, 0, 0, none, 0, 0, 0⟩ : Raw)]) := ⟨_, hid rfl⟩
              have hbx := list_box encROk (l := [(⟨u.data.toList, none, 0, 0, none, 0, 0, 0⟩ : Raw)]) (heap_alloc_new w (.cells #[.string u, .slice none 0 0, .slice none 0 0, .int .i64 0] 74 (0, 0))) (by simp [rowV, encR, sV]) (by simp [maxLen])
              have hor := (OwnL.of_row HS0.out.raw.row).later ((Kept.refl [] w).alloc (.cells #[.string u, .slice none 0 0, .slice none 0 0, .int .i64 0] 74 (0, 0)))
              have hqbl := lt_of_heap HS0.out.raw.blk
              have hqne := HS0.out.raw.ne
              have hblk := hid HS0.out.raw.blk
              go_wp2_with (at_builtin; refine wp_appL encROk Try.underlying64 HNN.out hor hbx (by simp; omega) rfl _ _ rfl rfl rfl rfl rfl ?_; intro a5 c5 w5 o5 k5 f5; have hb5 := k5.at ((Below.heap_alloc _ _ _ hqbl).trans hblk.out) hqne; have d0 := cell_at hb5 0; have f0 := free_at hb5 0; simp at d0)
              go_meet
              have hp5 := HS0.out.raw.push HS0.out.like (isP0 w u.data.toList) (HNN.out ▸ o5.row) k5 f5
              rw [← HNN.out] at hp5
              have hpr : prof U u.data.toList = prof0 := by unfold prof; rw [HN.out]; rfl
              exact ⟨X.length, a5, c5, N, _, rfl, by rw [HNN.out]; simp, by rw [HNN.out]; simp; omega, hp5, ⟨by rw [List.length_append]; have := HLL.out; simp; omega, by rw [hpr]; have := HLL.out; simp [this]⟩, fun q => by rw [HLL.out]; exact put_new HN.out q⟩
            · rw [e]
              have hk0 : ¬ (k : Int) < 0 := by omega
              have HQ := hid (And.intro hs h1)
              clear e hs h1
              go_wp2_with fail
              go_meet
              exact ⟨k, a, cap, X, U, rfl, by rw [HLL.out]; exact hk, by rw [HLL.out]; have := HLEN.out; omega, HS0.out, ⟨hk, by unfold prof; rw [HQ.out.1]; exact Prod.ext HQ.out.2 rfl⟩, fun q => put_at HUQ.out hk HQ.out.2 q⟩
          case rest =>
            obtain ⟨k, a', cap', X', U', rfl, hk, hX, hR, ⟨hku, hue⟩, hput⟩ := hcut
            obtain ⟨M1, HM1⟩ : ∃ M, Hid (M = movedL (prof U u.data.toList).dev d.data.toList) := ⟨_, hid rfl⟩
            obtain ⟨M2, HM2⟩ : ∃ M, Hid (M = movedL (prof U u.data.toList).pl p.data.toList) := ⟨_, hid rfl⟩
            rw [← HM1.out, ← HM2.out] at HNP
            have hg1 := fun (wq : World) (a1 : Option Addr) (cc : Nat) (hs : StrsAt wq a1 (prof U u.data.toList).dev) => rmoved_any (cap := cc) hs (by omega) d
            rw [rmovedL_eq _ _ hf.1, ← HM1.out] at hg1
            have hg2 := fun (wq : World) (a1 : Option Addr) (cc : Nat) (hs : StrsAt wq a1 (prof U u.data.toList).pl) => rmoved_any (cap := cc) hs (by omega) p
            rw [rmovedL_eq _ _ hf.2, ← HM2.out] at hg2
            have HG1 := hid hg1
            have HG2 := hid hg2
            have HPUT := hid hput
            clear hg1 hg2 hf hput c0 c1
            have hIP := hR.like.el k hk hku
            rw [hue] at hIP
            obtain ⟨i1, i2, i3, i4, i5, i6⟩ := hIP
            obtain ⟨g, rfl, hg, d0, d1, d2, d3, hfz⟩ := hR.raw.get hk
            obtain ⟨e0, e1⟩ := hR.raw.head
            have hb1 : (0 : Int) ≤ k := by omega
            have hb2 : (k : Int) < X'.length := by omega
            rw [i2] at d1
            have HI := hid (And.intro i1 (And.intro i3 (And.intro i4 i6)))
            have H5 := hid i5
            have HRR := hid hR
            have hqg : qb ≠ g := by have := hR.raw.ne; simpa [fp] using this
            have HC1 := hid (fun wq (q : Kept [] wc wq) => And.intro (show wq.cell? ⟨qb, 0, none⟩ = some (.slice (some ⟨g, 0, none⟩) X'.length cap') by rw [q.cell (World.block_lt_of_cell? wc _ e0) (by simp)]; exact e0) (And.intro (show wq.cell? ⟨g, k * 4 + 1, none⟩ = some (.slice X'[k].a1 (prof U u.data.toList).dev.length X'[k].c1) by rw [q.cell (World.block_lt_of_cell? wc _ d1) (by simp)]; exact d1) (show wq.frozen? ⟨g, k * 4 + 1, none⟩ = false by rw [q.frozen (World.block_lt_of_cell? wc _ d1) (by simp)]; exact hfz _)))
            clear hR i1 i2 i3 i4 i5 i6 d0 d2 d3 hfz
            generalize X'[k].a1 = la at *
            generalize X'[k].c1 = lc at *
            go_upto_region 11 with fail
            go_cut [] (fun wx => ∃ X2 : List Raw, X2.length = X'.length ∧ RefAt w wx qb a (some ⟨g, 0, none⟩) cap' X2 (U'.set k (u.data.toList, ⟨M1, (prof U u.data.toList).pl, (prof U u.data.toList).at_⟩)))
            case first =>
              go_region_with (go_at_call 40; refine (HG1.out _ _ _ (H5.out.keptN ((Kept.refl [] _).drew)).1).mono ?_; rintro e w5 ⟨a5, c5, rfl, s5, k5⟩; have k5' : Kept [] wc w5 := (Kept.refl [] wc).drew.step k5 (by simp); obtain ⟨y0, y1, y2⟩ := HC1.out _ k5')
              all_goals
                go_wp2_with fail
                go_meet
                exact ⟨_, by simp, (HRR.out.later k5').store hk (by omega) (x := ⟨u.data.toList, a5, M1.length, c5, X'[k].a2, X'[k].n2, X'[k].c2, X'[k].t⟩) (by simp [encR, HI.out.1]) ⟨rfl, rfl, HI.out.2.1, HI.out.2.2.1, s5, HI.out.2.2.2.keptN k5'⟩⟩
            case rest =>
              obtain ⟨X2, hx2, hR2⟩ := hcut
              clear e0 e1 d1
              have HX2 := hid hx2
              have hk2 : k < X2.length := by omega
              have hX2 : X2.length ≤ 257 := by omega
              clear hx2 HC1 HI H5 HRR hk hX hb2
              have hku2 : k < (U'.set k (u.data.toList, (⟨M1, (prof U u.data.toList).pl, (prof U u.data.toList).at_⟩ : Prof))).length := by simpa using hku
              have hIP := hR2.like.el k hk2 hku2
              rw [List.getElem_set_self] at hIP
              obtain ⟨i1, i2, i3, i4, i5, i6⟩ := hIP
              dsimp only at i1 i2 i3 i4 i5 i6
              obtain ⟨g', hgg, hg2, d0, d1, d2, d3, hfz⟩ := hR2.raw.get hk2
              injection hgg with hgg; injection hgg with hgg
              subst hgg
              obtain ⟨e0, e1⟩ := hR2.raw.head
              have hb2 : (k : Int) < X2.length := by omega
              rw [i3] at d2
              have HI := hid (And.intro i1 (And.intro i2 (And.intro i4 i5)))
              have H6 := hid i6
              have HRR := hid hR2
              have HC1 := hid (fun wq (q : Kept [] wc wq) => And.intro (show wq.cell? ⟨qb, 0, none⟩ = some (.slice (some ⟨g, 0, none⟩) X2.length cap') by rw [q.cell (World.block_lt_of_cell? wc _ e0) (by simp)]; exact e0) (And.intro (show wq.cell? ⟨g, k * 4 + 2, none⟩ = some (.slice X2[k].a2 (prof U u.data.toList).pl.length X2[k].c2) by rw [q.cell (World.block_lt_of_cell? wc _ d2) (by simp)]; exact d2) (show wq.frozen? ⟨g, k * 4 + 2, none⟩ = false by rw [q.frozen (World.block_lt_of_cell? wc _ d2) (by simp)]; exact hfz _)))
              clear hR2 i1 i2 i3 i4 i5 i6 d0 d1 d3 hfz
              generalize X2[k].a2 = la2 at *
              generalize X2[k].c2 = lc2 at *
              go_upto_region 12 with fail
              go_cut [] (fun wx => ∃ X3 : List Raw, X3.length = X2.length ∧ RefAt w wx qb a (some ⟨g, 0, none⟩) cap' X3 (U'.set k (u.data.toList, ⟨M1, M2, (prof U u.data.toList).at_⟩)))
              case first =>
                go_region_with (go_at_call 40; refine (HG2.out _ _ _ (H6.out.keptN ((Kept.refl [] _).drew)).1).mono ?_; rintro e w5 ⟨a5, c5, rfl, s5, k5⟩; have k5' : Kept [] wc w5 := (Kept.refl [] wc).drew.step k5 (by simp); obtain ⟨y0, y1, y2⟩ := HC1.out _ k5')
                all_goals
                  go_wp2_with fail
                  go_meet
                  have hst := (HRR.out.later k5').store hk2 (by omega) (j := 2) (x := ⟨u.data.toList, X2[k].a1, X2[k].n1, X2[k].c1, a5, M2.length, c5, X2[k].t⟩) (v := .slice a5 M2.length c5) (e := (u.data.toList, ⟨M1, M2, (prof U u.data.toList).at_⟩)) (by simp [encR, HI.out.1]) ⟨rfl, HI.out.2.1, rfl, HI.out.2.2.1, HI.out.2.2.2.keptN k5', s5⟩
                  rw [List.set_set] at hst
                  exact ⟨_, by simp, hst⟩
              case rest =>
                obtain ⟨X3, hx3, hR3⟩ := hcut
                clear e0 e1 d2
                have hk3 : k < X3.length := by omega
                have hX3 : X3.length ≤ 257 := by omega
                clear hx3 HC1 HI H6 HRR hk2 hX2 hb2 hku2
                have hku3 : k < (U'.set k (u.data.toList, (⟨M1, M2, (prof U u.data.toList).at_⟩ : Prof))).length := by simpa using hku
                have hIP := hR3.like.el k hk3 hku3
                rw [List.getElem_set_self] at hIP
                obtain ⟨i1, i2, i3, i4, i5, i6⟩ := hIP
                dsimp only at i1 i2 i3 i4 i5 i6
                obtain ⟨g', hgg, hg3, d0, d1, d2, d3, hfz⟩ := hR3.raw.get hk3
                injection hgg with hgg; injection hgg with hgg
                subst hgg
                obtain ⟨e0, e1⟩ := hR3.raw.head
                have hb2 : (k : Int) < X3.length := by omega
                have HI := hid (And.intro i1 (And.intro i2 (And.intro i3 (And.intro i5 i6))))
                have HRR := hid hR3
                have fz3 := hfz (k * 4 + 3)
                clear hR3 i1 i2 i3 i4 i5 i6 d0 d1 d2 hfz
                go_upto_region 13 with fail
                go_region_with (go_at_call 41; refine (limit_any _ _).mono ?_; rintro e w' ⟨rfl, rfl⟩)
                all_goals
                  go_wp2_with fail
                  go_ret
                  have hst := (HRR.out.later ((Kept.refl [] wc).drew)).store hk3 (by omega) (j := 3) (x := ⟨u.data.toList, X3[k].a1, X3[k].n1, X3[k].c1, X3[k].a2, X3[k].n2, X3[k].c2, lim now⟩) (v := .int .i64 (lim now)) (e := (u.data.toList, ⟨M1, M2, lim now⟩)) (by simp [encR, HI.out.1]) ⟨rfl, HI.out.2.1, HI.out.2.2.1, rfl, HI.out.2.2.2.1.keptN ((Kept.refl [] wc).drew), HI.out.2.2.2.2.keptN ((Kept.refl [] wc).drew)⟩
                  rw [List.set_set, HPUT.out] at hst
                  rw [E1.out, E2.out, HNP.out]
                  exact ⟨rfl, _, _, _, hst⟩
        · have E1 := hid (show obsC U u.data.toList d.data.toList p.data.toList = 3 by unfold obsC; rw [hwu, hwd, hwp]; simp only [Bool.and_self, if_true]; rw [if_neg (by simpa using hroom)])
          have E2 := hid (show obsU U u.data.toList d.data.toList p.data.toList now = U by unfold obsU; rw [E1.out]; rfl)
          have hn : alook U u.data.toList = none := by
            cases hx : alook U u.data.toList with
            | none => rfl
            | some q => exact absurd (.inl (by rw [hx]; rfl)) hroom
          have hX : (256 : Int) ≤ X.length := by have hx : ¬ U.length < 256 := fun hx => hroom (.inr hx); omega
          have hat : idx (atB u.data.toList) U = -1 := by
            rcases at_cases huq u.data.toList with ⟨e, _⟩ | ⟨k, hk, _, hs, _⟩
            · exact e
            · rw [hn] at hs; cases hs
          rw [hat] at HAT
          clear hroom hwu hwd hwp hn hat h hl hll
          go_enter Try.func19, Try.ntmps19
          go_wp2_with fail
          refine HU.out.mono ?_
          rintro e w' ⟨rfl, rfl⟩
          go_wp2_with fail
          refine HD.out.mono ?_
          rintro e w' ⟨rfl, rfl⟩
          go_wp2_with fail
          refine HP.out.mono ?_
          rintro e w' ⟨rfl, rfl⟩
          go_wp2_with fail
          refine HAT.out.mono ?_
          rintro e w' ⟨rfl, rfl⟩
          go_wp2_with fail
          go_ret
          rw [E1.out, E2.out]
          exact ⟨rfl, _, _, _, HS0.out⟩
      · rw [Bool.not_eq_true] at hwp
        rw [hwp] at HP
        have E1 := hid (HBAD.out (by simp [hwp]))
        have E2 := hid (show obsU U u.data.toList d.data.toList p.data.toList now = U by unfold obsU; rw [E1.out]; rfl)
        clear hwu hwd hwp
        go_enter Try.func19, Try.ntmps19
        go_wp2_with fail
        refine HU.out.mono ?_
        rintro e w' ⟨rfl, rfl⟩
        go_wp2_with fail
        refine HD.out.mono ?_
        rintro e w' ⟨rfl, rfl⟩
        go_wp2_with fail
        refine HP.out.mono ?_
        rintro e w' ⟨rfl, rfl⟩
        go_wp2_with fail
        go_ret
        rw [E1.out, E2.out]
        exact ⟨rfl, _, _, _, HS0.out⟩
    · rw [Bool.not_eq_true] at hwd
      rw [hwd] at HD
      have E1 := hid (HBAD.out (by simp [hwd]))
      have E2 := hid (show obsU U u.data.toList d.data.toList p.data.toList now = U by unfold obsU; rw [E1.out]; rfl)
      clear hwu hwd
      go_enter Try.func19, Try.ntmps19
      go_wp2_with fail
      refine HU.out.mono ?_
      rintro e w' ⟨rfl, rfl⟩
      go_wp2_with fail
      refine HD.out.mono ?_
      rintro e w' ⟨rfl, rfl⟩
      go_wp2_with fail
      go_ret
      rw [E1.out, E2.out]
      exact ⟨rfl, _, _, _, HS0.out⟩
  · rw [Bool.not_eq_true] at hwu
    rw [hwu] at HU
    have E1 := hid (HBAD.out (by simp [hwu]))
    have E2 := hid (show obsU U u.data.toList d.data.toList p.data.toList now = U by unfold obsU; rw [E1.out]; rfl)
    clear hwu
    go_enter Try.func19, Try.ntmps19
    go_wp2_with fail
    refine HU.out.mono ?_
    rintro e w' ⟨rfl, rfl⟩
    go_wp2_with fail
    go_ret
    rw [E1.out, E2.out]
    exact ⟨rfl, _, _, _, HS0.out⟩
end Go.Proofs.Ytbcbffmbpoffpaa
