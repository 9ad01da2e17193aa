/- Start of the reference. Printed by gen_ref5.py. -/
import Derived.Test.YtionejokdfgmhaaRef4
import Derived.Deep.AppendLies
import Derived.Deep.RegionLaw
namespace Go.Proofs.Ytionejokdfgmhaa
open Go.RowKit Go.Maps

/-- An entry has been appended. -/
theorem RefAt.push {w w5 w6 : World} {qb : Nat} {a a6 : Option Addr} {cap c6 : Nat} {Y : List Ent} (h : RefAt w qb a cap Y) {e : Ent} (k5 : Kept [] w w5) (hl : EntL w5 e) (hn : ∀ j, j ∈ fp e.2.sa ∨ j ∈ fp e.2.aa → w.heap.size ≤ j) (k6 : Kept (fp a) w5 w6) {M : List Ent} (hM : M = Y ++ [e]) (hrow : w6.ownsRow 0 75 11 (.slice a6 M.length c6) M.length (rowV encR M)) (f6 : ∀ i ∈ fp a6, i ∈ fp a ∨ w5.heap.size ≤ i) (few : Y.length < 256) (hinv : Inv e.2.x) (hnew : alook (absR Y) e.1 = none) :
    RLeft w (w6.setCell ⟨qb, 0, none⟩ (.slice a6 M.length c6)) qb a Y (absR Y ++ [(e.1, e.2.x)]) := by
  subst hM
  have h5 := h.keptN k5
  have kq : Kept [qb] w6 (w6.setCell ⟨qb, 0, none⟩ (.slice a6 (Y ++ [e]).length c6)) := (Kept.refl [qb] w6).setCell (.inl (by simp)) _
  have hq5 : qb < w5.heap.size := lt_of_heap h5.blk
  have hqw : qb < w.heap.size := lt_of_heap h.blk
  have hfa : ∀ i ∈ fp a, i < w.heap.size := fun i hi => h.lt i (rdom_mem.2 (.inr (.inl hi)))
  have hq6 := k6.at h5.blk h.g_ne
  have hgt : ∀ e, EntL w5 e → ∀ j, j ∈ fp e.2.sa ∨ j ∈ fp e.2.aa → j ∉ fp a ∧ j ≠ qb := fun e he j hj => by
    obtain ⟨cur, t, hc, ht, ht2⟩ := he.blk j hj
    refine ⟨fun hm => ?_, fun hm => ?_⟩
    · obtain ⟨cur2, hc2⟩ := row_blk h5.row j hm
      rw [hc] at hc2
      injection hc2 with hc2
      injection hc2 with _ hc2 _
      exact ht hc2
    · subst hm
      rw [h5.blk] at hc
      injection hc with hc
      injection hc with _ hc _
      exact ht2 hc.symm
  have hu : AUniq (absR (Y ++ [e])) := by
    show AUniq ((Y ++ [e]).map fun e => (e.1, e.2.x))
    rw [List.map_append]
    refine List.pairwise_append.2 ⟨h.uniq, by simp, fun p hp q hq => ?_⟩
    simp at hq
    subst hq
    exact alook_none.1 hnew p hp
  refine ⟨a6, c6, Y ++ [e], ⟨?_, ?_, fun x hx => ?_, by simp; omega, fun x hx => ?_, hu⟩, by simp [absR], ?_, fun j hj => ?_⟩
  · exact heap_setCell_same _ _ 0 _ _ _ hq6
  · refine row_kept hrow kq (fun i hi hm => ?_)
    simp at hm
    subst hm
    rcases f6 i hi with e | e
    · exact h.g_ne e
    · omega
  · have hE : EntL w5 x := by
      rcases List.mem_append.1 hx with hx | hx
      · exact h5.each x hx
      · simp at hx; subst hx; exact hl
    exact ⟨(hE.1.kept k6 (fun j hj => (hgt x hE j (.inl hj)).1)).kept kq (fun j hj hm => (hgt x hE j (.inl hj)).2 (by simpa using hm)), (hE.2.kept k6 (fun j hj => (hgt x hE j (.inr hj)).1)).kept kq (fun j hj hm => (hgt x hE j (.inr hj)).2 (by simpa using hm))⟩
  · rcases List.mem_append.1 hx with hx | hx
    · exact h.inv x hx
    · simp at hx; subst hx; exact hinv
  · exact ((k5.mono (T := qb :: fp a) (by simp)).step k6 (fun j hj => List.mem_cons_of_mem _ hj)).step kq (fun j hj => by simp at hj; simp [hj])
  · rcases rdom_mem.1 hj with e1 | e1 | ⟨x, hx, hd⟩
    · exact .inl (rdom_mem.2 (.inl e1))
    · rcases f6 j e1 with e2 | e2
      · exact .inl (rdom_mem.2 (.inr (.inl e2)))
      · exact .inr (Nat.le_trans k5.size e2)
    · rcases List.mem_append.1 hx with hx | hx
      · exact .inl (rdom_mem.2 (.inr (.inr ⟨x, hx, hd⟩)))
      · simp at hx; subst hx; exact .inr (hn j hd)

set_option maxHeartbeats 16000000 in
set_option maxRecDepth 100000 in
theorem rstart_any {w : World} {qb : Nat} {a : Option Addr} {cap : Nat} {Y : List Ent} (h : RefAt w qb a cap Y) (s kind user by_ : ByteArray) (hs : s.size ≤ maxLen) (hk : kind.size ≤ maxLen) (hu : user.size ≤ maxLen) (hb : by_.size ≤ maxLen) {sa : Option Addr} {sc : Nat} {l : List Stp} (hl : StpsAt w sa l) (hsh : ShortT l) (until_ now : Int) :
    Calls Try.prog 29 #[.pointer (some ⟨qb, 0, none⟩), .string s, .string kind, .string user, .string by_, .slice sa l.length sc, .int .i64 until_, .int .i64 now] w fun e w' => e = .returned (.int .i64 (startC (absR Y) s.data.toList kind.data.toList user.data.toList by_.data.toList l until_ now)) ∧ RLeft w w' qb a Y (startU (absR Y) s.data.toList kind.data.toList user.data.toList by_.data.toList l until_ now) := by
  have c0 := h.c0
  have hfew := h.few
  have hf := hl.few
  unfold maxLen at hf
  have H1 := hid (rword_any s w hs)
  have H2 := hid (rword_any kind w hk)
  have H3 := hid (rword_any user w hu)
  have H4 := hid (rword_any by_ w hb)
  have HF := hid (find_any h s)
  have HH := hid h
  obtain ⟨K, HK⟩ : ∃ K, Hid (K = s.data.toList) := ⟨_, hid rfl⟩
  have EC := hid (show startC (absR Y) s.data.toList kind.data.toList user.data.toList by_.data.toList l until_ now = if wordB s.data.toList && wordB kind.data.toList && wordB user.data.toList && wordB by_.data.toList then (if chkC l = 0 then (if lim until_ ≤ lim now then 13 else if (alook (absR Y) s.data.toList).isSome then 7 else if 256 ≤ (absR Y).length then 3 else 0) else chkC l) else 5 from rfl)
  have EU := hid (show startU (absR Y) s.data.toList kind.data.toList user.data.toList by_.data.toList l until_ now = if startC (absR Y) s.data.toList kind.data.toList user.data.toList by_.data.toList l until_ now = 0 then absR Y ++ [(s.data.toList, newX kind.data.toList user.data.toList by_.data.toList l until_)] else absR Y from rfl)
  have FIN := hid (fun (c : Int) (hc : c ≠ 0) (e : startC (absR Y) s.data.toList kind.data.toList user.data.toList by_.data.toList l until_ now = c) => show startU (absR Y) s.data.toList kind.data.toList user.data.toList by_.data.toList l until_ now = absR Y by rw [EU.out, if_neg (by rw [e]; exact hc)])
  cases w1 : wordB s.data.toList
  · rw [w1] at H1
    have E := hid (show startC (absR Y) s.data.toList kind.data.toList user.data.toList by_.data.toList l until_ now = 5 by rw [EC.out, w1]; simp)
    clear h w1
    go_enter Try.func29, Try.ntmps29
    go_wp2_with fail
    refine H1.out.mono ?_
    rintro e w' ⟨rfl, rfl⟩
    go_wp2_with fail
    go_ret
    rw [E.out, FIN.out _ (by decide) E.out]
    exact ⟨rfl, RLeft.same HH.out (Kept.refl _ _)⟩
  rw [w1] at H1
  cases w2 : wordB kind.data.toList
  · rw [w2] at H2
    have E := hid (show startC (absR Y) s.data.toList kind.data.toList user.data.toList by_.data.toList l until_ now = 5 by rw [EC.out, w1, w2]; simp)
    clear h w1 w2
    go_enter Try.func29, Try.ntmps29
    go_wp2_with fail
    refine H1.out.mono ?_
    rintro e w' ⟨rfl, rfl⟩
    go_wp2_with fail
    refine H2.out.mono ?_
    rintro e w' ⟨rfl, rfl⟩
    go_wp2_with fail
    go_ret
    rw [E.out, FIN.out _ (by decide) E.out]
    exact ⟨rfl, RLeft.same HH.out (Kept.refl _ _)⟩
  rw [w2] at H2
  cases w3 : wordB user.data.toList
  · rw [w3] at H3
    have E := hid (show startC (absR Y) s.data.toList kind.data.toList user.data.toList by_.data.toList l until_ now = 5 by rw [EC.out, w1, w2, w3]; simp)
    clear h w1 w2 w3
    go_enter Try.func29, Try.ntmps29
    go_wp2_with fail
    refine H1.out.mono ?_
    rintro e w' ⟨rfl, rfl⟩
    go_wp2_with fail
    refine H2.out.mono ?_
    rintro e w' ⟨rfl, rfl⟩
    go_wp2_with fail
    refine H3.out.mono ?_
    rintro e w' ⟨rfl, rfl⟩
    go_wp2_with fail
    go_ret
    rw [E.out, FIN.out _ (by decide) E.out]
    exact ⟨rfl, RLeft.same HH.out (Kept.refl _ _)⟩
  rw [w3] at H3
  cases w4 : wordB by_.data.toList
  · rw [w4] at H4
    have E := hid (show startC (absR Y) s.data.toList kind.data.toList user.data.toList by_.data.toList l until_ now = 5 by rw [EC.out, w1, w2, w3, w4]; simp)
    clear h w1 w2 w3 w4
    go_enter Try.func29, Try.ntmps29
    go_wp2_with fail
    refine H1.out.mono ?_
    rintro e w' ⟨rfl, rfl⟩
    go_wp2_with fail
    refine H2.out.mono ?_
    rintro e w' ⟨rfl, rfl⟩
    go_wp2_with fail
    refine H3.out.mono ?_
    rintro e w' ⟨rfl, rfl⟩
    go_wp2_with fail
    refine H4.out.mono ?_
    rintro e w' ⟨rfl, rfl⟩
    go_wp2_with fail
    go_ret
    rw [E.out, FIN.out _ (by decide) E.out]
    exact ⟨rfl, RLeft.same HH.out (Kept.refl _ _)⟩
  rw [w4] at H4
  have EC2 := hid (show startC (absR Y) s.data.toList kind.data.toList user.data.toList by_.data.toList l until_ now = if chkC l = 0 then (if lim until_ ≤ lim now then 13 else if (alook (absR Y) s.data.toList).isSome then 7 else if 256 ≤ (absR Y).length then 3 else 0) else chkC l by rw [EC.out, w1, w2, w3, w4]; simp)
  clear w1 w2 w3 w4 EC
  by_cases h0 : l.length = 0
  · have hb0 : l = [] := List.length_eq_zero_iff.1 h0
    have E := hid (show startC (absR Y) s.data.toList kind.data.toList user.data.toList by_.data.toList l until_ now = 6 by rw [EC2.out, show chkC l = 6 by unfold chkC; rw [if_pos h0]]; rfl)
    subst hb0
    clear h h0
    go_enter Try.func29, Try.ntmps29
    go_wp2_with fail
    refine H1.out.mono ?_
    rintro e w' ⟨rfl, rfl⟩
    go_wp2_with fail
    refine H2.out.mono ?_
    rintro e w' ⟨rfl, rfl⟩
    go_wp2_with fail
    refine H3.out.mono ?_
    rintro e w' ⟨rfl, rfl⟩
    go_wp2_with fail
    refine H4.out.mono ?_
    rintro e w' ⟨rfl, rfl⟩
    go_wp2_with fail
    go_ret
    rw [E.out, FIN.out _ (by decide) E.out]
    exact ⟨rfl, RLeft.same HH.out (Kept.refl _ _)⟩
  have hb0 : ((l.length : Int) == 0) = false := by rw [beq_eq_false_iff_ne]; omega
  by_cases h8 : 8 < l.length
  · have hc8 : chkC l = 3 := by unfold chkC; rw [if_neg h0, if_pos h8]
    have E := hid (show startC (absR Y) s.data.toList kind.data.toList user.data.toList by_.data.toList l until_ now = 3 by rw [EC2.out, hc8]; rfl)
    have h8' : (8 : Int) < l.length := by omega
    clear h hc8
    go_enter Try.func29, Try.ntmps29
    go_wp2_with fail
    refine H1.out.mono ?_
    rintro e w' ⟨rfl, rfl⟩
    go_wp2_with fail
    refine H2.out.mono ?_
    rintro e w' ⟨rfl, rfl⟩
    go_wp2_with fail
    refine H3.out.mono ?_
    rintro e w' ⟨rfl, rfl⟩
    go_wp2_with fail
    refine H4.out.mono ?_
    rintro e w' ⟨rfl, rfl⟩
    go_wp2_with fail
    go_ret
    rw [E.out, FIN.out _ (by decide) E.out]
    exact ⟨rfl, RLeft.same HH.out (Kept.refl _ _)⟩
  have hc8 : chkC l = firstE l := by unfold chkC; rw [if_neg h0, if_neg h8]
  have HC8 := hid hc8
  have h8' : (l.length : Int) ≤ 8 := by omega
  clear h0 hc8
  have HH8 := hid h8
  clear h8
  go_enter Try.func29, Try.ntmps29
  go_wp2_with fail
  refine H1.out.mono ?_
  rintro e w' ⟨rfl, rfl⟩
  go_wp2_with fail
  refine H2.out.mono ?_
  rintro e w' ⟨rfl, rfl⟩
  go_wp2_with fail
  refine H3.out.mono ?_
  rintro e w' ⟨rfl, rfl⟩
  go_wp2_with fail
  refine H4.out.mono ?_
  rintro e w' ⟨rfl, rfl⟩
  go_wp2_with fail
  go_loop [17] (fun i => ∃ k : Nat, k ≤ l.length ∧ i = .int .i64 k ∧ NoneTo badS l k) (fun i => l.length - (intOf i).toNat)
  case atStart => exact ⟨0, Nat.zero_le _, rfl, NoneTo.zero _ _⟩
  case round =>
    obtain ⟨k, hk, rfl, hn⟩ := hrel
    have hkb : k ≤ 8 := by omega
    by_cases hlt : k < l.length
    · obtain ⟨b, off, rfl, hbb, hs0, hs1⟩ := StpsAt.get hl hlt
      unfold sV at hs0
      have hb1 : (0 : Int) ≤ k := by omega
      have hb2 : (k : Int) < l.length := by omega
      have hx := hid (show l[k].1.length ≤ maxLen from hsh _ (List.getElem_mem hlt))
      have hA := hid (fun hp => firstE_at hn hlt hp)
      have hB := hid (fun hp => hn.next hlt hp)
      clear hn
      generalize l[k] = x at *
      obtain ⟨sw, sn⟩ := x
      simp only at hs0 hs1
      have HWD := hid (rword_any ⟨sw.toArray⟩ w (by rw [size_str]; exact hx.out))
      have HBAD := hid (fun (c : Int) (hc : c ≠ 0) (e : chk1 (sw, sn) = c) => show startC (absR Y) s.data.toList kind.data.toList user.data.toList by_.data.toList l until_ now = c by rw [EC2.out, HC8.out, hA.out (by unfold badS; rw [e]; simpa using hc), e, if_neg hc])
      cases hw : wordB sw
      · rw [show wordB (⟨sw.toArray⟩ : ByteArray).data.toList = false from hw] at HWD
        have E := hid (HBAD.out 5 (by decide) (by unfold chk1; rw [hw]; rfl))
        clear hw
        go_wp2_with fail
        refine HWD.out.mono ?_
        rintro e w' ⟨rfl, rfl⟩
        go_wp2_with fail
        go_ret
        rw [E.out, FIN.out _ (by decide) E.out]
        exact ⟨rfl, RLeft.same HH.out (Kept.refl _ _)⟩
      rw [show wordB (⟨sw.toArray⟩ : ByteArray).data.toList = true from hw] at HWD
      by_cases hr1 : sn < 1
      · have E := hid (HBAD.out 27 (by decide) (by unfold chk1; rw [hw, if_pos rfl, if_pos (.inl hr1)]))
        clear hw
        go_wp2_with fail
        refine HWD.out.mono ?_
        rintro e w' ⟨rfl, rfl⟩
        go_wp2_with fail
        go_ret
        rw [E.out, FIN.out _ (by decide) E.out]
        exact ⟨rfl, RLeft.same HH.out (Kept.refl _ _)⟩
      by_cases hr2 : 8 < sn
      · have E := hid (HBAD.out 27 (by decide) (by unfold chk1; rw [hw, if_pos rfl, if_pos (.inr hr2)]))
        clear hw
        go_wp2_with fail
        refine HWD.out.mono ?_
        rintro e w' ⟨rfl, rfl⟩
        go_wp2_with fail
        go_ret
        rw [E.out, FIN.out _ (by decide) E.out]
        exact ⟨rfl, RLeft.same HH.out (Kept.refl _ _)⟩
      have HG := hid (show badS (sw, sn) = false by unfold badS chk1; rw [hw, if_pos rfl, if_neg (by omega)]; rfl)
      clear hw
      go_wp2_with fail
      refine HWD.out.mono ?_
      rintro e w' ⟨rfl, rfl⟩
      go_wp2_with fail
      go_round
      case rel => exact ⟨k + 1, by omega, by go_num, hB.out HG.out⟩
      case measure => simp [intOf]; omega
    · have hch : chkC l = 0 := by rw [HC8.out]; exact firstE_none (hn.all (by omega))
      have HCH := hid hch
      have EC3 := hid (show startC (absR Y) s.data.toList kind.data.toList user.data.toList by_.data.toList l until_ now = if lim until_ ≤ lim now then 13 else if (alook (absR Y) s.data.toList).isSome then 7 else if 256 ≤ (absR Y).length then 3 else 0 by rw [EC2.out, if_pos hch])
      clear hch hn EC2
      have hb1 := lim_bd until_
      have hb2 := lim_bd now
      by_cases h13 : lim until_ ≤ lim now
      · have E := hid (show startC (absR Y) s.data.toList kind.data.toList user.data.toList by_.data.toList l until_ now = 13 by rw [EC3.out, if_pos h13])
        go_wp2_with (go_at_call 50; refine (instant_any _ _).mono ?_; rintro e w' ⟨rfl, rfl⟩)
        go_ret
        rw [E.out, FIN.out _ (by decide) E.out]
        exact ⟨rfl, RLeft.same HH.out (Kept.refl _ _)⟩
      rcases look_idx (Y := Y) (k := s.data.toList) with ⟨e, hn⟩ | ⟨i, hi, e, hk2, hlk⟩
      rotate_left
      · rw [e] at HF
        have E := hid (show startC (absR Y) s.data.toList kind.data.toList user.data.toList by_.data.toList l until_ now = 7 by rw [EC3.out, if_neg h13, hlk]; rfl)
        have hi0 : (0 : Int) ≤ i := by omega
        have hi9 : i ≤ 256 := by omega
        clear hlk hk2 e
        go_wp2_with (first
          | (go_at_call 50; refine (instant_any _ _).mono ?_; rintro e w' ⟨rfl, rfl⟩)
          | (go_at_call 38; refine HF.out.mono ?_; rintro e w' ⟨rfl, rfl⟩))
        go_ret
        rw [E.out, FIN.out _ (by decide) E.out]
        exact ⟨rfl, RLeft.same HH.out (Kept.refl _ _)⟩
      rw [e] at HF
      have HNEW := hid hn
      by_cases hm : 256 ≤ Y.length
      · have E := hid (show startC (absR Y) s.data.toList kind.data.toList user.data.toList by_.data.toList l until_ now = 3 by rw [EC3.out, if_neg h13, hn, if_neg (by simp), if_pos (by simpa [absR] using hm)])
        clear hn e
        have hm' : (256 : Int) ≤ Y.length := by omega
        go_wp2_with (first
          | (go_at_call 50; refine (instant_any _ _).mono ?_; rintro e w' ⟨rfl, rfl⟩)
          | (go_at_call 38; refine HF.out.mono ?_; rintro e w' ⟨rfl, rfl⟩))
        go_ret
        rw [E.out, FIN.out _ (by decide) E.out]
        exact ⟨rfl, RLeft.same HH.out (Kept.refl _ _)⟩
      have E := hid (show startC (absR Y) s.data.toList kind.data.toList user.data.toList by_.data.toList l until_ now = 0 by rw [EC3.out, if_neg h13, hn, if_neg (by simp), if_neg (by simpa [absR] using hm)])
      have E2 := hid (show startU (absR Y) s.data.toList kind.data.toList user.data.toList by_.data.toList l until_ now = absR Y ++ [(s.data.toList, newX kind.data.toList user.data.toList by_.data.toList l until_)] by rw [EU.out, if_pos E.out])
      have HSI := hid (newX_inv (kind := kind.data.toList) (user := user.data.toList) (by_ := by_.data.toList) (u := until_) HCH.out)
      have HR := hid (ownl_of_row h.row)
      have HSL := hid hl
      have HFZ := hid (fun wq (kq : Kept (fp a) w wq) => And.intro ((cell_at (kq.at h.blk h.g_ne) 0).trans rfl) (free_at (kq.at h.blk h.g_ne) 0))
      have hfz := free_at h.blk 0
      have hml : ¬ (256 : Int) ≤ Y.length := by omega
      have HM0 := hid hm
      clear hn e hm
      go_wp2_with (first
        | (go_at_call 50; refine (instant_any _ _).mono ?_; rintro e w' ⟨rfl, rfl⟩)
        | (go_at_call 38; refine HF.out.mono ?_; rintro e w' ⟨rfl, rfl⟩))
      have HRW := hid (fun wq (kq : Kept [] w wq) => ownl_of_row (HH.out.keptN kq).row)
      clear HR
      have hlY : ¬ (l.length = 0) := by intro e; simp [e] at hb0
      have q0 := fun (o : Obj) => (HFZ.out _ ((Kept.refl (fp a) w).alloc o)).1
      go_region_law  ((first
          | (obtain ⟨M, HM⟩ : ∃ M, Hid (M = Y ++ [(s.data.toList, RP.mk a5 c5 none 0 (newX kind.data.toList user.data.toList by_.data.toList l until_))]) := ⟨_, hid rfl⟩; refine step_appL encROk Try.underlying63 HM.out (HRW.out _ (o5.kept.alloc _)) (list_box encROk (heap_alloc_new w5 _) (by simp [rowV, encR, sV, newX]) (by simp [maxLen])) (show Y.length + 1 ≤ 1000000 by omega) rfl _ _ rfl rfl rfl rfl rfl ?_; intro a6 c6 w6 o6 k6 f6; have hq6 := HFZ.out _ ((((o5.kept.alloc _).mono (T := fp a) (by simp))).step k6 (fun j hj => hj)); obtain ⟨q6, z6⟩ := hq6)
          | (refine step_appL encTOk Try.underlying35 (List.nil_append l).symm ((OwnL.made w).later (Kept.refl [] _).drew) (HSL.out.keptN ((Kept.refl [] w).alloc _).drew) (show 0 + l.length ≤ 1000000 by omega) rfl _ _ rfl rfl rfl rfl rfl ?_; intro a5 c5 w5 o5 k5 f5; have q5 := (HFZ.out _ (o5.kept.mono (T := fp a) (by simp))).1; have q5' := fun (o : Obj) => (HFZ.out _ ((o5.kept.mono (T := fp a) (by simp)).alloc o)).1)))
      all_goals (try (go_wp2_with fail))
      all_goals (go_ret; rw [E.out, E2.out]; refine ⟨rfl, HH.out.push (e := (s.data.toList, RP.mk a5 c5 none 0 (newX kind.data.toList user.data.toList by_.data.toList l until_))) (o5.kept.alloc _) ⟨(LB.of encTOk o5).keptN ((Kept.refl [] w5).alloc _), ⟨list_nil _ _, by simp [fp]⟩⟩ (fun j hj => hj.elim (fun e => o5.new j e) (fun e => by simp [fp] at e)) k6 HM.out o6.row f6 (by omega) HSI.out HNEW.out⟩)
end Go.Proofs.Ytionejokdfgmhaa
