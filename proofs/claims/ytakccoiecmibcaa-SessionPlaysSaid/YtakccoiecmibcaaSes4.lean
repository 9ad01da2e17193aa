/- Of, Len, Expire of the program. -/
import Derived.Test.YtakccoiecmibcaaSes3
namespace Go.Proofs.Ytakccoiecmibcaa
open Go.RowKit Go.Maps

/-- A list of strings in a new block is handed back. -/
def Gives (w w' : World) (e : Ending) (l : List Str) : Prop := ∃ a c, e = .returned (.slice a l.length c) ∧ StrsAt w' a l ∧ (∀ i ∈ fp a, w.heap.size ≤ i) ∧ Kept [] w w'
/-- What has been found, and what is still to come. -/
def Found (f : Str × EP → Bool) (X T : EXs) (out : List Str) : Prop := (out ++ (T.filter f).map (·.1)).Perm ((X.filter f).map (·.1))
theorem Found.start (f : Str × EP → Bool) (X : EXs) : Found f X X [] := List.Perm.refl _
theorem Found.yes {f : Str × EP → Bool} {X T : EXs} {out : List Str} (h : Found f X T out) (hu : AUniq T) {k : Str} {x : EP} (hm : (k, x) ∈ T) (hf : f (k, x) = true) : Found f X (adel T k) (out ++ [k]) := by
  refine List.Perm.trans ?_ h
  have h1 := ((perm_del hu hm).filter f).map (·.1)
  rw [List.filter_cons_of_pos hf] at h1
  rw [List.append_assoc]
  exact (h1.append_left out).symm
theorem Found.no {f : Str × EP → Bool} {X T : EXs} {out : List Str} (h : Found f X T out) (hu : AUniq T) {k : Str} {x : EP} (hm : (k, x) ∈ T) (hf : f (k, x) = false) : Found f X (adel T k) out := by
  refine List.Perm.trans ?_ h
  have h1 := ((perm_del hu hm).filter f).map (·.1)
  rw [List.filter_cons_of_neg (by rw [hf]; simp)] at h1
  exact (h1.append_left out).symm
theorem Found.len {f : Str × EP → Bool} {X T : EXs} {out : List Str} (h : Found f X T out) : out.length ≤ X.length := by
  have := h.length_eq
  have h2 := List.length_filter_le f X
  simp at this
  omega
theorem Found.done {f : Str × EP → Bool} {X : EXs} {out : List Str} (h : Found f X [] out) : sortS out = sortS ((X.filter f).map (·.1)) := by
  unfold Found at h
  simp only [List.filter_nil, List.map_nil, List.append_nil] at h
  exact sortS_of_perm h
theorem Found.count {f : Str × EP → Bool} {X : EXs} {out : List Str} (h : Found f X [] out) : out.length = (X.filter f).length := by
  unfold Found at h
  have := h.length_eq
  simpa using this
theorem of_abs (X : EXs) (u : Str) (now : Int) : ofL (absW X) u now = sortS ((X.filter fun p => liveB p.2.x (lim now) && p.2.x.user == u).map (·.1)) := by
  unfold ofL absW
  rw [List.filter_map, List.map_map]
  rfl
theorem exp_abs (X : EXs) (now : Int) : expL (absW X) now = sortS ((X.filter fun p => expB p.2.x (lim now) && !p.2.x.ended).map (·.1)) := by
  unfold expL absW
  rw [List.filter_map, List.map_map]
  rfl
theorem expU_abs (X : EXs) (now : Int) : absW (X.filter fun p => !(expB p.2.x (lim now))) = expU (absW X) now := by
  unfold expU absW
  rw [List.filter_map]
  rfl
theorem len_abs (X : EXs) : lenN (absW X) = (X.filter fun p => !p.2.x.ended).length := by
  unfold lenN absW
  rw [List.filter_map, List.length_map]
  rfl
/-- What is left while the range goes on. -/
def Swept (f : Str × EP → Bool) (X0 X T : EXs) : Prop := X = X0.filter fun p => T.any (fun q => q.1 == p.1) || !f p
theorem Swept.start (f : Str × EP → Bool) (X : EXs) : Swept f X X X := by
  unfold Swept
  rw [List.filter_eq_self.2]
  intro p hp
  rw [List.any_eq_true.2 ⟨p, hp, by simp⟩]; rfl
theorem Swept.sub {f : Str × EP → Bool} {X0 X T : EXs} (h : Swept f X0 X T) : ∀ p ∈ X, p ∈ X0 := by
  intro p hp
  rw [h] at hp
  exact (List.mem_filter.1 hp).1
theorem any_del (T : EXs) (k k' : Str) : (adel T k).any (fun q => q.1 == k') = (T.any (fun q => q.1 == k') && !(k' == k)) := by
  unfold adel
  induction T with
  | nil => simp
  | cons a r ih =>
    rw [List.filter_cons, List.any_cons]
    by_cases e : a.1 = k
    · rw [if_neg (by simp [e]), ih]
      by_cases e2 : k' = k
      · simp [e2]
      · have : (a.1 == k') = false := by rw [e]; simpa using fun h => e2 h.symm
        simp [this]
    · rw [if_pos (by simpa using e), List.any_cons, ih]
      by_cases e2 : k' = k
      · have : (a.1 == k') = false := by rw [e2]; simpa using e
        simp [e2, e]
      · have : (k' == k) = false := by simpa using e2
        simp [this]
theorem Swept.yes {f : Str × EP → Bool} {X0 X T : EXs} (h : Swept f X0 X T) (hu : AUniq X0) {k : Str} {x : EP} (hm : (k, x) ∈ X0) (hf : f (k, x) = true) : Swept f X0 (adel X k) (adel T k) := by
  unfold Swept at h ⊢
  conv => lhs; unfold adel; rw [h]
  rw [List.filter_filter]
  apply List.filter_congr
  intro p hp
  rw [any_del]
  by_cases e : p.1 = k
  · have : p = (k, x) := by
      have h1 := alook_of_mem hu (show (p.1, p.2) ∈ X0 from hp)
      have h2 := alook_of_mem hu hm
      rw [e, h2] at h1
      injection h1 with h1
      rw [← e, h1]
    rw [this, hf]; simp
  · have : (p.1 == k) = false := by simpa using e
    simp [this]
theorem Swept.no {f : Str × EP → Bool} {X0 X T : EXs} (h : Swept f X0 X T) (hu : AUniq X0) {k : Str} {x : EP} (hm : (k, x) ∈ X0) (hf : f (k, x) = false) : Swept f X0 X (adel T k) := by
  unfold Swept at h ⊢
  rw [h]
  apply List.filter_congr
  intro p hp
  rw [any_del]
  by_cases e : p.1 = k
  · have : p = (k, x) := by
      have h1 := alook_of_mem hu (show (p.1, p.2) ∈ X0 from hp)
      have h2 := alook_of_mem hu hm
      rw [e, h2] at h1
      injection h1 with h1
      rw [← e, h1]
    rw [this, hf]; simp
  · have : (p.1 == k) = false := by simpa using e
    simp [this]
theorem Swept.done {f : Str × EP → Bool} {X0 X : EXs} (h : Swept f X0 X []) : X = X0.filter fun p => !f p := by
  unfold Swept at h
  simpa using h
/-- While a range goes on, the sessions stand. -/
theorem SesAt.during {w wr : World} {sb mb r : Nat} {idle abs : Int} {X T : EXs} {cnt : Nat} (h : SesAt w sb mb idle abs X) (hr : PRange Try.prog 9 EntAt edm EP.p wr mb r X T cnt) (hb : wr.heap[sb]? = w.heap[sb]?) : SesAt wr sb mb idle abs X :=
  ⟨hb.trans h.blk, hr.pmap, h.out, h.len, h.good, h.key, h.ri, h.ra⟩

/-! ### Len -/
set_option maxHeartbeats 4000000 in
set_option maxRecDepth 100000 in
theorem len_any {w : World} {sb mb : Nat} {idle abs : Int} {X : EXs} (h : SesAt w sb mb idle abs X) :
    Calls Try.prog 14 #[.pointer (some ⟨sb, 0, none⟩)] w fun e w' => e = .returned (.int .i64 (lenN (absW X) : Nat)) ∧ Kept [] w w' := by
  have c2 := h.c2
  have hlen := h.len
  have HD := hid (show w.heap.size ∉ pdom edm mb X from fun hi => by have := h.map.lt entLaw _ hi; omega)
  rw [len_abs]
  obtain ⟨f, HF⟩ : ∃ f : Str × EP → Bool, Hid (f = fun p => !p.2.x.ended) := ⟨_, hid rfl⟩
  rw [← HF.out]
  go_enter Try.func14, Try.ntmps14
  go_wp2_with (first
    | (go_at_call 31; refine (made_any c2).mono ?_; rintro e w' ⟨rfl, rfl⟩)
    | (at_range; refine wp_prange entLaw h.map rfl _ 62 rfl 66 lawS Try.underlying62 rfl ?_; intro w0 hrg0 hk0 hs0))
  go_frame
  go_loopw [3] (fun v wr => ∃ (out : List Str) (T : EXs) (cnt : Nat), v = .int .i64 (out.length : Nat) ∧ PRange Try.prog 9 EntAt edm EP.p wr mb w.heap.size X T cnt ∧ Found f X T out ∧ Kept [] w wr) (fun _ wr => wr.rangeLeft mb w.heap.size)
  case atStart => exact ⟨[], X, _, rfl, hrg0, Found.start _ _, hk0⟩
  case round =>
    obtain ⟨out, T, cnt, rfl, hrg, hfd, hkw⟩ := hrel
    have HRG := hid hrg
    have HFD := hid hfd
    have HKW := hid hkw
    have hol := hfd.len
    clear hrg hfd hkw hrg0 hk0 hs0
    go_wp2_with (first
      | (at_next; refine wp_pnext entLaw HRG.out HD.out rfl _ rfl lawS Try.underlying9 rfl ?_ ?_))
    · intro hT
      have HT := hid hT
      clear hT
      go_wp2_with fail
      go_ret
      have h5 := HFD.out
      rw [HT.out] at h5
      rw [← h5.count]
      exact ⟨rfl, HKW.out⟩
    · intro k x w1 cnt1 hkl hm hrg1 hlt1 hk1 hsz1 hen
      have hx1 := hrg1.each _ (HRG.out.sub _ hm)
      have c9 := hx1.ec.c9
      have HRG1 := hid hrg1
      have HKW1 := hid (HKW.out.trans hk1 (fun i hi => .inr (by simp at hi; omega)))
      have HFV := hid (show f (k, x) = !x.x.ended by rw [HF.out])
      have HYES := hid (fun hf => HFD.out.yes HRG.out.tuniq hm hf)
      have HNO := hid (fun hf => HFD.out.no HRG.out.tuniq hm hf)
      have HM := hid (show cnt1 < wr.rangeLeft mb w.heap.size by rw [HRG.out.run.left_eq]; exact hlt1)
      clear hrg1 hx1 hk1 hm hlt1 hsz1 HFD HRG
      generalize x.x.ended = en at *
      have hb1 : (0 : Int) ≤ out.length := by omega
      have hb2 : (out.length : Int) ≤ 256 := by omega
      cases en
      · have HFY := hid (HYES.out HFV.out)
        go_wp2_with fail
        go_roundw
        case rel => exact ⟨out ++ [k], _, cnt1, by simp, HRG1.out, HFY.out, HKW1.out⟩
        case measure => rw [HRG1.out.run.left_eq]; exact HM.out
      · have HFN := hid (HNO.out HFV.out)
        go_wp2_with fail
        go_roundw
        case rel => exact ⟨out, _, cnt1, rfl, HRG1.out, HFN.out, HKW1.out⟩
        case measure => rw [HRG1.out.run.left_eq]; exact HM.out
set_option maxHeartbeats 400000 in
theorem len_nil (w : World) :
    Calls Try.prog 14 #[.pointer none] w fun e w' => e = .returned (.int .i64 0) ∧ w = w' := by
  go_enter Try.func14, Try.ntmps14
  go_wp2_with (go_at_call 31; refine (made_nil _).mono ?_; rintro e w' ⟨rfl, rfl⟩)
  go_ret
  exact ⟨rfl, rfl⟩

/-! ### Of -/
theorem live_find {X : EXs} (hu : AUniq X) {k : Str} {x : EP} (hm : (k, x) ∈ X) (now : Int) : (findC (absW X) k now = 0 ↔ liveB x.x (lim now) = true) ∧ (findC (absW X) k now = 0 → findV X k now = .pointer (some ⟨x.p, 0, none⟩)) := by
  have hl := alook_of_mem hu hm
  refine ⟨?_, fun h => by unfold findV; rw [if_pos h, hl]; rfl⟩
  rw [find_of (x := x.x) (by rw [absW_look, hl]; rfl)]
  unfold liveB
  simp
set_option maxHeartbeats 8000000 in
set_option maxRecDepth 100000 in
theorem of_any {w : World} {sb mb : Nat} {idle abs : Int} {X : EXs} (h : SesAt w sb mb idle abs X) (u : ByteArray) (now : Int) :
    Calls Try.prog 15 #[.pointer (some ⟨sb, 0, none⟩), .string u, .int .i64 now] w fun e w' => Gives w w' e (ofL (absW X) u.data.toList now) := by
  have c2 := h.c2
  have hlen := h.len
  have HH := hid h
  have HD := hid (show w.heap.size ∉ pdom edm mb X from fun hi => by have := h.map.lt entLaw _ hi; omega)
  have HSB := hid (lt_of_heap h.blk)
  rw [of_abs]
  obtain ⟨f, HF⟩ : ∃ f : Str × EP → Bool, Hid (f = fun p => liveB p.2.x (lim now) && p.2.x.user == u.data.toList) := ⟨_, hid rfl⟩
  rw [← HF.out]
  go_enter Try.func15, Try.ntmps15
  go_wp2_with (first
    | (go_at_call 31; refine (made_any c2).mono ?_; rintro e w' ⟨rfl, rfl⟩)
    | (at_range; refine wp_prange entLaw h.map rfl _ 62 rfl 66 lawS Try.underlying62 rfl ?_; intro w0 hrg0 hk0 hs0))
  go_frame
  go_loopw [7] (fun v wr => ∃ (out : List Str) (a' : Option Addr) (cap' : Nat) (T : EXs) (cnt : Nat), v = .slice a' out.length cap' ∧ PRange Try.prog 9 EntAt edm EP.p wr mb w.heap.size X T cnt ∧ Found f X T out ∧ OwnL 9 1 encS w wr a' cap' out ∧ w.heap.size ∉ fp a') (fun _ wr => wr.rangeLeft mb w.heap.size)
  case atStart => exact ⟨[], none, 0, X, _, rfl, hrg0, Found.start _ _, ⟨World.ownsRow_nil _ _ _ _, hk0, by simp [fp]⟩, by simp [fp]⟩
  case round =>
    obtain ⟨out, a', cap', T, cnt, rfl, hrg, hfd, ho, hnr⟩ := hrel
    have HRG := hid hrg
    have HFD := hid hfd
    have HO := hid ho
    have HNR := hid hnr
    have hol := hfd.len
    clear hrg hfd ho hnr hrg0 hk0 hs0
    go_wp2_with (first
      | (at_next; refine wp_pnext entLaw HRG.out HD.out rfl _ rfl lawS Try.underlying9 rfl ?_ ?_))
    · intro hT
      have HT := hid hT
      clear hT
      go_wp2_with (go_at_call 39; refine (sort_any HO.out (by omega)).mono ?_; rintro e w5 ⟨rfl, o5, k5⟩)
      go_ret
      have h5 := HFD.out
      rw [HT.out] at h5
      rw [← h5.done]
      have h6 := o5.seq encSOk
      exact ⟨a', cap', by rw [sortS_len]; rfl, h6, o5.new, o5.kept⟩
    · intro k x w1 cnt1 hkl hm hrg1 hlt1 hk1 hsz1 hen
      have hx1 := hrg1.each _ (HRG.out.sub _ hm)
      have HRG1 := hid hrg1
      have HX1 := hid hx1
      have HO1 := hid (HO.out.beside hk1 (fun i hi => by simp at hi; omega) (fun i hi => by simp at hi; rw [hi]; exact HNR.out))
      have hses := HH.out.during hrg1 (HO1.out.kept.block sb HSB.out (by simp))
      obtain ⟨hlf1, hlf2⟩ := live_find HRG.out.uniq (HRG.out.sub _ hm) now
      have HFD2 := hid (find_any hses ⟨k.toArray⟩ (by rw [size_str]; exact hkl) now)
      change Hid (Calls Try.prog 35 _ _ fun e w' => e = .returned (.tuple #[findV X k now, .int .i64 (findC (absW X) k now)]) ∧ DrewN w1 w') at HFD2
      have HFV := hid (show f (k, x) = (liveB x.x (lim now) && x.x.user == u.data.toList) by rw [HF.out])
      have HYES := hid (fun hf => HFD.out.yes HRG.out.tuniq hm hf)
      have HNO := hid (fun hf => HFD.out.no HRG.out.tuniq hm hf)
      have HM := hid (show cnt1 < wr.rangeLeft mb w.heap.size by rw [HRG.out.run.left_eq]; exact hlt1)
      have HHS := hid (show w.heap.size < w1.heap.size from hrg1.run.lt)
      clear hrg1 hx1 hk1 hm hlt1 hsz1 HO HFD HRG hses
      cases e1 : liveB x.x (lim now)
      · have hz : findC (absW X) k now ≠ 0 := fun e => by rw [hlf1.1 e] at e1; cases e1
        rw [find_nptr hz] at HFD2
        have hzb : (findC (absW X) k now == 0) = false := by simpa using hz
        have HFN := hid (HNO.out (by rw [HFV.out, e1]; rfl))
        generalize findC (absW X) k now = C at *
        clear hlf1 hlf2 hz e1
        go_wp2_with (go_at_call 35; refine HFD2.out.mono ?_; rintro e w2 ⟨rfl, hd2⟩)
        go_roundw
        case rel => exact ⟨out, a', cap', _, cnt1, rfl, HRG1.out.keptN entLaw hd2.kept, HFN.out, HO1.out.later hd2.kept, HNR.out⟩
        case measure => rw [(HRG1.out.keptN entLaw hd2.kept).run.left_eq]; exact HM.out
      · have hz := hlf1.2 e1
        rw [hlf2 hz, hz] at HFD2
        clear hlf1 hlf2 hz
        cases e2 : (x.x.user == u.data.toList)
        · have HFN := hid (HNO.out (by rw [HFV.out, e1, e2]; rfl))
          rw [← ByteArray.toList_eq] at e2
          clear e1
          go_wp2_with (go_at_call 35; refine HFD2.out.mono ?_; rintro e w2 ⟨rfl, hd2⟩; have d1 := (HX1.out.atD hd2).ec.c1)
          go_roundw
          case rel => exact ⟨out, a', cap', _, cnt1, rfl, HRG1.out.keptN entLaw hd2.kept, HFN.out, HO1.out.later hd2.kept, HNR.out⟩
          case measure => rw [(HRG1.out.keptN entLaw hd2.kept).run.left_eq]; exact HM.out
        · have HFY := hid (HYES.out (by rw [HFV.out, e1, e2]; rfl))
          rw [← ByteArray.toList_eq] at e2
          obtain ⟨M, HMM⟩ : ∃ M, Hid (M = out ++ [k]) := ⟨_, hid rfl⟩
          have HP4 := hid (fun w2 (hk2 : Kept [] w1 w2) (o : Obj) wq (kq : Kept (fp a') (w2.alloc o) wq) => (HRG1.out.keptN entLaw (hk2.alloc o)).kept entLaw kq (fun i hi hm => by have h1 := h.map.lt entLaw i hi; have h2 := HO1.out.new i hm; omega) HNR.out)
          have HSZ := hid (fun w2 (hk2 : Kept [] w1 w2) => (show w.heap.size < w2.heap.size from Nat.lt_of_lt_of_le HHS.out hk2.size))
          clear e1
          go_wp2_with (first
            | (at_builtin; refine wp_appL encSOk Try.underlying31 HMM.out ((HO1.out.later hd2.kept).later ((Kept.refl [] _).alloc _)) (box_str _ ⟨k.toArray⟩ _) (show out.length + [k].length ≤ 1000000 by simp; omega) rfl _ _ rfl rfl rfl rfl rfl ?_; intro a4 c4 w4 o4 k4 f4; go_frame)
            | (go_at_call 35; refine HFD2.out.mono ?_; rintro e w2 ⟨rfl, hd2⟩; have d1 := (HX1.out.atD hd2).ec.c1))
          go_roundw
          case rel =>
            rw [← HMM.out] at HFY
            exact ⟨M, a4, c4, _, cnt1, rfl, HP4.out _ hd2.kept _ _ k4, HFY.out, o4, fun hi => (f4 _ hi).elim HNR.out (fun e => by have := HSZ.out _ hd2.kept; simp at e; omega)⟩
          case measure => rw [(HP4.out _ hd2.kept _ _ k4).run.left_eq]; exact HM.out

/-! ### Expire -/
set_option maxHeartbeats 8000000 in
set_option maxRecDepth 100000 in
theorem expire_any {w : World} {sb mb : Nat} {idle abs : Int} {X : EXs} (h : SesAt w sb mb idle abs X) (now : Int) :
    Calls Try.prog 16 #[.pointer (some ⟨sb, 0, none⟩), .int .i64 now] w fun e w' => (∃ a c, e = .returned (.slice a (expL (absW X) now).length c) ∧ StrsAt w' a (expL (absW X) now) ∧ ∀ i ∈ fp a, w.heap.size ≤ i) ∧ Left w w' sb mb idle abs X (expU (absW X) now) := by
  have c2 := h.c2
  have hlen := h.len
  have HD := hid (show w.heap.size ∉ pdom edm mb X from fun hi => by have := h.map.lt entLaw _ hi; omega)
  obtain ⟨f, HF⟩ : ∃ f : Str × EP → Bool, Hid (f = fun p => expB p.2.x (lim now)) := ⟨_, hid rfl⟩
  obtain ⟨g, HG⟩ : ∃ g : Str × EP → Bool, Hid (g = fun p => expB p.2.x (lim now) && !p.2.x.ended) := ⟨_, hid rfl⟩
  have HW := hid (show absW (X.filter fun p => !f p) = expU (absW X) now by rw [HF.out]; exact expU_abs X _)
  have HGD := hid (show Good idle abs (expU (absW X) now) from ⟨List.Pairwise.filter _ h.good.uniq, fun p hp => h.good.inv p (List.mem_filter.1 hp).1, fun p hp => h.good.word p (List.mem_filter.1 hp).1⟩)
  rw [← HW.out] at HGD ⊢
  rw [exp_abs, ← HG.out]
  have hne : sb ≠ mb := fun e => h.out (pdom_mem.2 (.inl e))
  have hsbl := lt_of_heap h.blk
  have HMB := hid h.map.map.lt
  go_enter Try.func16, Try.ntmps16
  go_wp2_with (first
    | (go_at_call 31; refine (made_any c2).mono ?_; rintro e w' ⟨rfl, rfl⟩)
    | (at_range; refine wp_prange entLaw h.map rfl _ 62 rfl 66 lawS Try.underlying62 rfl ?_; intro w0 hrg0 hk0 hs0))
  go_frame
  go_loopw [5] (fun v wr => ∃ (out : List Str) (a' : Option Addr) (cap' : Nat) (Y T : EXs) (cnt : Nat), v = .slice a' out.length cap' ∧ PRange Try.prog 9 EntAt edm EP.p wr mb w.heap.size Y T cnt ∧ Swept f X Y T ∧ Found g X T out ∧ Kept [mb] w wr ∧ wr.ownsRow 0 9 1 (.slice a' out.length cap') out.length (rowV encS out) ∧ (∀ i ∈ fp a', w.heap.size < i)) (fun _ wr => wr.rangeLeft mb w.heap.size)
  case atStart => exact ⟨[], none, 0, X, X, _, rfl, hrg0, Swept.start _ _, Found.start _ _, hk0.mono (by simp), World.ownsRow_nil _ _ _ _, by simp [fp]⟩
  case round =>
    obtain ⟨out, a', cap', Y, T, cnt, rfl, hrg, hsw, hfd, hkw, hrow, hnw⟩ := hrel
    have HRG := hid hrg
    have HSW := hid hsw
    have HFD := hid hfd
    have HKW := hid hkw
    have HROW := hid hrow
    have HNW := hid hnw
    have hol := hfd.len
    have hc0 : wr.cell? ⟨sb, 2, none⟩ = some (.map (some mb)) := by rw [hkw.cell hsbl (by simpa using hne)]; exact c2
    have hyl : Y.length ≤ X.length := by rw [hsw]; exact List.length_filter_le _ _
    have HDY := hid (show w.heap.size ∉ pdom edm mb Y from fun hi => HD.out (by
      rcases pdom_mem.1 hi with e | ⟨p, hp, hd⟩
      · exact pdom_mem.2 (.inl e)
      · exact pdom_mem.2 (.inr ⟨p, hsw.sub p hp, hd⟩)))
    clear hrg hsw hkw hrg0 hk0 hs0 hfd hrow hnw
    go_wp2_with (first
      | (at_next; refine wp_pnext entLaw HRG.out HDY.out rfl _ rfl lawS Try.underlying9 rfl ?_ ?_))
    · intro hT
      have HY := hid (show Y = X.filter fun p => !f p from Swept.done (by have := HSW.out; rwa [hT] at this))
      have HT := hid hT
      clear hT
      have HO5 := hid (ownl_of_row HROW.out)
      go_wp2_with (go_at_call 39; refine (sort_any HO5.out (by omega)).mono ?_; rintro e w5 ⟨rfl, o5, k5⟩)
      go_ret
      have h5 := HFD.out
      rw [HT.out] at h5
      rw [← h5.done, ← HY.out]
      have hk5 : Kept [mb] w w5 := HKW.out.trans k5 (fun i hi => .inr (by have := HNW.out i hi; omega))
      have hpm := HRG.out.pmap.kept entLaw k5 (fun i hi hm => by
        have h1 := HNW.out i hm
        have h2 := h.map.lt entLaw i (by
          rcases pdom_mem.1 hi with e | ⟨p, hp, hd⟩
          · exact pdom_mem.2 (.inl e)
          · exact pdom_mem.2 (.inr ⟨p, HSW.out.sub p hp, hd⟩))
        omega)
      refine ⟨⟨a', cap', by rw [sortS_len]; rfl, o5.seq encSOk, fun i hi => by have := HNW.out i hi; omega⟩, Y, ⟨hk5.at h.blk (by simpa using hne), hpm, fun hi => h.out ?_, by omega, by rw [HY.out]; exact HGD.out, fun p hp => h.key p (HSW.out.sub p hp), h.ri, h.ra⟩, rfl, hk5.mono (fun i hi => .inl (by simp at hi; rw [hi]; simp [sdom, pdom])), fun i hi => .inl ?_⟩
      · rcases pdom_mem.1 hi with e | ⟨p, hp, hd⟩
        · exact pdom_mem.2 (.inl e)
        · exact pdom_mem.2 (.inr ⟨p, HSW.out.sub p hp, hd⟩)
      · unfold sdom at hi ⊢
        rcases List.mem_cons.1 hi with e | hi
        · rw [e]; exact List.mem_cons_self ..
        · refine List.mem_cons_of_mem _ ?_
          rcases pdom_mem.1 hi with e | ⟨p, hp, hd⟩
          · exact pdom_mem.2 (.inl e)
          · exact pdom_mem.2 (.inr ⟨p, HSW.out.sub p hp, hd⟩)
    · intro k x w1 cnt1 hkl hm hrg1 hlt1 hk1 hsz1 hen
      have hx1 := hrg1.each _ (HRG.out.sub _ hm)
      have c6 := hx1.ec.c6
      have HX1 := hid hx1
      have HKW1 := hid (HKW.out.trans hk1 (fun i hi => .inr (by simp at hi; omega)))
      have HC1 := hid (fun wq (kq : Kept [mb] w wq) => (show wq.cell? ⟨sb, 2, none⟩ = some (.map (some mb)) by rw [kq.cell hsbl (by simpa using hne)]; exact c2))
      have HROW1 := hid (row_kept HROW.out hk1 (fun i hi hm => by have := HNW.out i hi; simp at hm; omega))
      have HRG1 := hid hrg1
      have HFV := hid (show f (k, x) = expB x.x (lim now) by rw [HF.out])
      have HGV := hid (show g (k, x) = (expB x.x (lim now) && !x.x.ended) by rw [HG.out])
      have HYES := hid (fun hf => HSW.out.yes h.map.uniq (HSW.out.sub _ (HRG.out.sub _ hm)) hf)
      have HNO := hid (fun hf => HSW.out.no h.map.uniq (HSW.out.sub _ (HRG.out.sub _ hm)) hf)
      have HGY := hid (fun hf => HFD.out.yes HRG.out.tuniq hm hf)
      have HGN := hid (fun hf => HFD.out.no HRG.out.tuniq hm hf)
      have HM := hid (show cnt1 < wr.rangeLeft mb w.heap.size by rw [HRG.out.run.left_eq]; exact hlt1)
      have HDX : ∀ i ∈ pdom edm mb Y, i < w.heap.size := fun i hi => h.map.lt entLaw i (by
          rcases pdom_mem.1 hi with e | ⟨p, hp, hd⟩
          · exact pdom_mem.2 (.inl e)
          · exact pdom_mem.2 (.inr ⟨p, HSW.out.sub p hp, hd⟩))
      have HDX2 := hid HDX
      have HHS := hid (show w.heap.size < w1.heap.size from hrg1.run.lt)
      have HA := hid (fun t n => Calls.quiet_of_same (n := n) (w := w1) ((add0_any t (w1.drewN n)).mono fun _ _ h => ⟨h.1, h.2.symm⟩))
      have HEB := hid (show expB x.x (lim now) = decide (x.x.until_ ≤ lim now) from rfl)
      clear hrg1 hx1 hk1 hm hlt1 hsz1 hc0 HDX
      generalize x.x.until_ = un at *
      by_cases e1 : un ≤ lim now
      · have hE : expB x.x (lim now) = true := by rw [HEB.out]; simpa using e1
        rw [hE] at HFV HGV
        have HFY := hid (HYES.out HFV.out)
        have hdd : adel (adel T k) k = adel T k := by unfold adel; rw [List.filter_filter]; congr 1; funext p; simp
        have HDD := hid hdd
        cases hen2 : x.x.ended
        · rw [hen2] at HGV
          have HGY2 := hid (HGY.out HGV.out)
          obtain ⟨M, HMM⟩ : ∃ M, Hid (M = out ++ [k]) := ⟨_, hid rfl⟩
          have d9 := HX1.out.ec.c9
          rw [hen2] at d9
          have HRGA := hid (fun (n : Nat) (o : Obj) w4 (k4 : Kept (fp a') ((w1.drewN n).alloc o) w4) => (HRG1.out.keptN entLaw (((Kept.refl [] w1).drewN n).alloc o)).kept entLaw k4 (fun i hi hm => by have := HNW.out i hm; have := HDX2.out i hi; omega) (fun hm => by have := HNW.out _ hm; omega))
          have HKA := hid (fun (n : Nat) (o : Obj) w4 (k4 : Kept (fp a') ((w1.drewN n).alloc o) w4) => ((HKW1.out.drewN n).alloc o).trans k4 (fun i hi => .inr (by have := HNW.out i hi; omega)))
          have HRA := hid (fun (n : Nat) (o : Obj) => ownl_of_row (row_kept HROW1.out (((Kept.refl [] w1).drewN n).alloc o) (by simp)))
          clear hE hen2 hdd
          go_wp2_with fail
          go_quiet ((go_at_call 30; with_reducible exact HA.out _ _))
          go_wp2_with (first
            | (at_delete; refine wp_pdelete entLaw (HRGA.out _ _ _ k4) rfl _ _ 62 rfl 66 lawS Try.underlying9 Try.underlying62 rfl k rfl hkl ?_; intro w5 cnt5 hrg5 hle5 hk5 hsz5; go_frame)
            | (at_builtin; refine wp_appL encSOk Try.underlying31 HMM.out (HRA.out _ _) (box_str _ ⟨k.toArray⟩ _) (show out.length + [k].length ≤ 1000000 by simp; omega) rfl _ _ rfl rfl rfl rfl rfl ?_; intro a4 c4 w4 o4 k4 f4; have hc4 := HC1.out _ (HKA.out _ _ _ k4); go_frame))
          rw [HDD.out] at hrg5
          go_roundw
          case rel => exact ⟨M, a4, c4, _, _, cnt5, rfl, hrg5, HFY.out, by rw [HMM.out]; exact HGY2.out, (HKA.out _ _ _ k4).step hk5 (by simp), row_kept o4.row hk5 (fun i hi hm => by simp at hm; have h8 := HMB.out; have h9 := HHS.out; exact (f4 i hi).elim (fun e => by have := HNW.out i e; omega) (fun e => by simp at e; omega)), fun i hi => (f4 i hi).elim (HNW.out i) (fun e => by have := HHS.out; simp at e; omega)⟩
          case measure => rw [hrg5.run.left_eq]; have := HM.out; omega
        · rw [hen2] at HGV
          have HGN2 := hid (HGN.out HGV.out)
          have d9 := HX1.out.ec.c9
          rw [hen2] at d9
          have HRGA := hid (fun (n : Nat) => HRG1.out.keptN entLaw ((Kept.refl [] w1).drewN n))
          have hc1 := HC1.out _ HKW1.out
          clear hE hen2 hdd
          go_wp2_with fail
          go_quiet ((go_at_call 30; with_reducible exact HA.out _ _))
          go_wp2_with (first
            | (at_delete; refine wp_pdelete entLaw (HRGA.out _) rfl _ _ 62 rfl 66 lawS Try.underlying9 Try.underlying62 rfl k rfl hkl ?_; intro w5 cnt5 hrg5 hle5 hk5 hsz5; go_frame))
          rw [HDD.out] at hrg5
          go_roundw
          case rel => exact ⟨out, a', cap', _, _, cnt5, rfl, hrg5, HFY.out, HGN2.out, (HKW1.out.drewN _).step hk5 (by simp), row_kept (row_drewN HROW1.out _) hk5 (fun i hi hm => by simp at hm; have := HNW.out i hi; have := HMB.out; omega), HNW.out⟩
          case measure => rw [hrg5.run.left_eq]; have := HM.out; omega
      · have hE : expB x.x (lim now) = false := by rw [HEB.out]; simpa using e1
        rw [hE] at HFV HGV
        have HFN := hid (HNO.out HFV.out)
        have HGN2 := hid (HGN.out HGV.out)
        clear hE
        go_wp2_with fail
        go_quiet ((go_at_call 30; with_reducible exact HA.out _ _))
        go_wp2_with fail
        go_roundw
        case rel => exact ⟨out, a', cap', Y, _, cnt1, rfl, HRG1.out.keptN entLaw ((Kept.refl [] w1).drewN _), HFN.out, HGN2.out, HKW1.out.drewN _, row_drewN HROW1.out _, HNW.out⟩
        case measure => rw [(HRG1.out.keptN entLaw ((Kept.refl [] w1).drewN _)).run.left_eq]; exact HM.out
end Go.Proofs.Ytakccoiecmibcaa
