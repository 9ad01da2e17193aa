/- Start of the program. Printed by gen_start.py. -/
import Derived.Test.YtakccoiecmibcaaSes4
namespace Go.Proofs.Ytakccoiecmibcaa
open Go.RowKit Go.Maps

/-- A new entry is stored. -/
theorem SesAt.start {w w1 : World} {sb mb : Nat} {idle abs : Int} {X : EXs} (h : SesAt w sb mb idle abs X) (s : ByteArray) (hs : s.size ≤ maxLen) (hn : alook X s.data.toList = none) (hl : X.length < 256) {q : EP} (kp : Kept [] w w1) (hc : EntAt w1 q) (hd : ∀ i ∈ edm q, w.heap.size ≤ i) (hi : Inv idle abs q.x) (hw : wordB s.data.toList = true) (hid : q.id = s.data.toList) :
    ∃ w', (Instr.mapUpdate 62 (.map (some mb)) (.string s) (.pointer (some ⟨q.p, 0, none⟩))).run Try.prog w1 = .ok () w' ∧ Left w w' sb mb idle abs X (absW X ++ [(s.data.toList, q.x)]) := by
  obtain ⟨w', hr, hm', hk', hsz⟩ := h.map.put entLaw s hs hn kp hc hd lawS Try.underlying9 Try.underlying62 (by unfold maxLen; omega)
  have hw1 : SesAt w1 sb mb idle abs X := h.keptN kp
  have hne : sb ≠ mb := fun e => h.out (pdom_mem.2 (.inl e))
  have hin : ∀ i ∈ pdom edm mb (X ++ [(s.data.toList, q)]), i ∈ pdom edm mb X ∨ i ∈ edm q := fun i hi => by
    rcases pdom_mem.1 hi with e | ⟨p, hp, hd⟩
    · exact .inl (pdom_mem.2 (.inl e))
    · rcases List.mem_append.1 hp with hp | hp
      · exact .inl (pdom_mem.2 (.inr ⟨p, hp, hd⟩))
      · rw [List.mem_singleton.1 hp] at hd; exact .inr hd
  have hnU : alook (absW X) s.data.toList = none := by rw [absW_look, hn]; rfl
  refine ⟨w', hr, X ++ [(s.data.toList, q)], ⟨hk'.at hw1.blk (by simpa using hne), hm', fun hi => ?_, by simp; omega, ?_, fun p hp => ?_, h.ri, h.ra⟩, absW_app _ _ _, ?_, fun i hi => ?_⟩
  · rcases hin _ hi with e | e
    · exact h.out e
    · have := hd _ e; have := lt_of_heap h.blk; omega
  · rw [absW_app]
    refine ⟨List.pairwise_append.2 ⟨h.good.uniq, by simp, fun a ha b hb => ?_⟩, fun p hp => ?_, fun p hp => ?_⟩
    · simp at hb
      rw [hb]
      exact alook_none.1 hnU a ha
    · rcases List.mem_append.1 hp with hp | hp
      · exact h.good.inv p hp
      · rw [List.mem_singleton.1 hp]; exact hi
    · rcases List.mem_append.1 hp with hp | hp
      · exact h.good.word p hp
      · rw [List.mem_singleton.1 hp]; exact hw
  · rcases List.mem_append.1 hp with hp | hp
    · exact h.key p hp
    · rw [List.mem_singleton.1 hp]; exact hid
  · exact (kp.mono (T := sdom sb mb X) (by simp)).step (hk'.mono (T := [mb]) (by simp)) (fun i hi => by simp at hi; rw [hi]; simp [sdom, pdom])
  · unfold sdom at hi ⊢
    rcases List.mem_cons.1 hi with e | hi
    · exact .inl (by rw [e]; exact List.mem_cons_self ..)
    · rcases hin _ hi with e | e
      · exact .inl (List.mem_cons_of_mem _ e)
      · exact .inr (hd i e)
theorem newAt {w0 w : World} {a : Option Addr} {c : Nat} {id : Str} {x : Sess} (o : OwnP w0 w a c x.proofs) (hx : x.clients = []) : EntAt (w.alloc (.cells (entV ⟨w.heap.size, a, c, none, 0, id, x⟩) 70 (0, 0))) ⟨w.heap.size, a, c, none, 0, id, x⟩ :=
  ⟨heap_alloc_new w _, row_kept o.row ((Kept.refl [] w).alloc _) (by simp), by
    show World.ownsRow _ 0 _ 1 (.slice none x.clients.length 0) x.clients.length (rowV encS x.clients)
    rw [hx]; exact World.ownsRow_nil _ _ _ _⟩
theorem newDom {w0 w : World} {a : Option Addr} {c : Nat} {id : Str} {x : Sess} (o : OwnP w0 w a c x.proofs) {m : Nat} (hm : m ≤ w.heap.size) (hm0 : m ≤ w0.heap.size) : ∀ i ∈ edm ⟨w.heap.size, a, c, none, 0, id, x⟩, m ≤ i := by
  intro i hi
  simp only [edm, fp, List.append_nil, List.mem_cons] at hi
  rcases hi with e | e
  · omega
  · exact Nat.le_trans hm0 (o.new i e)
theorem start_word {U : Sss} {id user tenant device : Str} {l : List Prf} (h : (wordB id && wordB user && wordB tenant && devB device) = true) : startC U id user tenant device l = if (alook U id).isSome then 7 else if l.length = 0 then 21 else if addsE l ≠ 0 then addsE l else if 256 ≤ U.length then 3 else 0 := by
  unfold startC; rw [h]; rfl
theorem start_noword {U : Sss} {id user tenant device : Str} {l : List Prf} (h : (wordB id && wordB user && wordB tenant && devB device) = false) : startC U id user tenant device l = 5 := by
  unfold startC; rw [h]; rfl
theorem adds_few (l : List Prf) (k : Nat) : (addsL (l.take k)).length ≤ k := by
  induction k with
  | zero => simp [addsL]
  | succ k ih =>
    by_cases h : k < l.length
    · rw [addsL_snoc l k h]
      unfold addL
      rw [List.length_append, List.length_singleton]
      have := delF_len (addsL (l.take k)) l[k].1
      omega
    · rw [List.take_of_length_le (by omega)]
      rw [List.take_of_length_le (by omega)] at ih
      omega
set_option maxHeartbeats 16000000 in
set_option maxRecDepth 100000 in
theorem start_any {w : World} {sb mb : Nat} {idle abs : Int} {X : EXs} (h : SesAt w sb mb idle abs X) (s user tenant device : ByteArray) (hs : s.size ≤ maxLen) (hu : user.size ≤ maxLen) (ht : tenant.size ≤ maxLen) (hv : device.size ≤ maxLen) {a : Option Addr} {cap : Nat} {l : List Prf} (hl : PrfsAt w a l) (hlen : l.length ≤ 100) (now : Int) :
    Calls Try.prog 9 #[.pointer (some ⟨sb, 0, none⟩), .string s, .string user, .string tenant, .string device, .slice a l.length cap, .int .i64 now] w fun e w' => e = .returned (.int .i64 (startC (absW X) s.data.toList user.data.toList tenant.data.toList device.data.toList l)) ∧ Left w w' sb mb idle abs X (startU idle abs (absW X) s.data.toList user.data.toList tenant.data.toList device.data.toList l now) := by
  have c2 := h.c2
  have hlk := h.look s hs
  have hln := h.lenrun
  have HH := hid h
  have HL := hid hl
  have EU := hid (show startU idle abs (absW X) s.data.toList user.data.toList tenant.data.toList device.data.toList l now = if startC (absW X) s.data.toList user.data.toList tenant.data.toList device.data.toList l = 0 then absW X ++ [(s.data.toList, newX idle abs user.data.toList tenant.data.toList device.data.toList l now)] else absW X from rfl)
  have H1 := hid (word_any s w hs)
  have H2 := hid (word_any user w hu)
  have H3 := hid (word_any tenant w ht)
  have H4 := hid (word_any device w hv)
  cases w1 : wordB s.data.toList
  · rw [w1] at H1
    have E := hid (show startC (absW X) s.data.toList user.data.toList tenant.data.toList device.data.toList l = 5 from start_noword (by rw [w1]; simp))
    rw [E.out] at EU
    rw [E.out, EU.out]
    clear h hl hlk hln
    go_enter Try.func9, Try.ntmps9
    go_wp2_with (go_at_call 31; refine (made_any c2).mono ?_; rintro e w' ⟨rfl, rfl⟩)
    refine H1.out.mono ?_
    rintro e w' ⟨rfl, rfl⟩
    go_wp2_with fail
    go_ret
    exact ⟨rfl, Left.same HH.out (Kept.refl _ _)⟩
  · rw [w1] at H1
    cases w2 : wordB user.data.toList
    · rw [w2] at H2
      have E := hid (show startC (absW X) s.data.toList user.data.toList tenant.data.toList device.data.toList l = 5 from start_noword (by rw [w1, w2]; simp))
      rw [E.out] at EU
      rw [E.out, EU.out]
      clear h hl hlk hln
      go_enter Try.func9, Try.ntmps9
      go_wp2_with (go_at_call 31; refine (made_any c2).mono ?_; rintro e w' ⟨rfl, rfl⟩)
      refine H1.out.mono ?_
      rintro e w' ⟨rfl, rfl⟩
      go_wp2_with fail
      refine H2.out.mono ?_
      rintro e w' ⟨rfl, rfl⟩
      go_wp2_with fail
      go_ret
      exact ⟨rfl, Left.same HH.out (Kept.refl _ _)⟩
    · rw [w2] at H2
      cases w3 : wordB tenant.data.toList
      · rw [w3] at H3
        have E := hid (show startC (absW X) s.data.toList user.data.toList tenant.data.toList device.data.toList l = 5 from start_noword (by rw [w1, w2, w3]; simp))
        rw [E.out] at EU
        rw [E.out, EU.out]
        clear h hl hlk hln
        go_enter Try.func9, Try.ntmps9
        go_wp2_with (go_at_call 31; refine (made_any c2).mono ?_; rintro e w' ⟨rfl, rfl⟩)
        refine H1.out.mono ?_
        rintro e w' ⟨rfl, rfl⟩
        go_wp2_with fail
        refine H2.out.mono ?_
        rintro e w' ⟨rfl, rfl⟩
        go_wp2_with fail
        refine H3.out.mono ?_
        rintro e w' ⟨rfl, rfl⟩
        go_wp2_with fail
        go_ret
        exact ⟨rfl, Left.same HH.out (Kept.refl _ _)⟩
      · rw [w3] at H3
        by_cases hde : device.data.toList = []
        · have hdb : (device.data.toList != []) = false := by simp [hde]
          have hdb2 : (device.toList == ([] : List UInt8)) = true := by rw [ByteArray.toList_eq, hde]; rfl
          have HDE := hid (show devB device.data.toList = true by unfold devB; rw [hde]; rfl)
          clear hde
          have HWW := hid (show (wordB s.data.toList && wordB user.data.toList && wordB tenant.data.toList && devB device.data.toList) = true by rw [w1, w2, w3]; exact HDE.out)
          have HC := hid (start_word (U := absW X) (l := l) HWW.out)
          cases hq : alook X s.data.toList with
          | some q =>
            have E := hid (show startC (absW X) s.data.toList user.data.toList tenant.data.toList device.data.toList l = 7 by rw [HC.out, absW_look, hq]; rfl)
            rw [E.out] at EU
            rw [E.out, EU.out]
            rw [hq, pval_some] at hlk
            clear h hl hq hln HC
            go_enter Try.func9, Try.ntmps9
            go_wp2_with (go_at_call 31; refine (made_any c2).mono ?_; rintro e w' ⟨rfl, rfl⟩)
            refine H1.out.mono ?_
            rintro e w' ⟨rfl, rfl⟩
            go_wp2_with fail
            refine H2.out.mono ?_
            rintro e w' ⟨rfl, rfl⟩
            go_wp2_with fail
            refine H3.out.mono ?_
            rintro e w' ⟨rfl, rfl⟩
            go_wp2_with fail
            go_ret
            exact ⟨rfl, Left.same HH.out (Kept.refl _ _)⟩
          | none =>
            have HC2 := hid (show startC (absW X) s.data.toList user.data.toList tenant.data.toList device.data.toList l = if l.length = 0 then 21 else if addsE l ≠ 0 then addsE l else if 256 ≤ (absW X).length then 3 else 0 by rw [HC.out, absW_look, hq]; rfl)
            rw [hq, pval_none] at hlk
            have HQ := hid hq
            clear h hl hq HC
            by_cases hz : l.length = 0
            · have E := hid (show startC (absW X) s.data.toList user.data.toList tenant.data.toList device.data.toList l = 21 by rw [HC2.out, if_pos hz])
              rw [E.out] at EU
              rw [E.out, EU.out]
              have hz2 : ((l.length : Int) == 0) = true := by rw [hz]; rfl
              clear HC2
              go_enter Try.func9, Try.ntmps9
              go_wp2_with (go_at_call 31; refine (made_any c2).mono ?_; rintro e w' ⟨rfl, rfl⟩)
              refine H1.out.mono ?_
              rintro e w' ⟨rfl, rfl⟩
              go_wp2_with fail
              refine H2.out.mono ?_
              rintro e w' ⟨rfl, rfl⟩
              go_wp2_with fail
              refine H3.out.mono ?_
              rintro e w' ⟨rfl, rfl⟩
              go_wp2_with fail
              go_ret
              exact ⟨rfl, Left.same HH.out (Kept.refl _ _)⟩
            · have HZ := hid hz
              have hz2 : ((l.length : Int) == 0) = false := by rw [beq_eq_false_iff_ne]; omega
              clear hz
              go_enter Try.func9, Try.ntmps9
              go_wp2_with (go_at_call 31; refine (made_any c2).mono ?_; rintro e w' ⟨rfl, rfl⟩)
              refine H1.out.mono ?_
              rintro e w' ⟨rfl, rfl⟩
              go_wp2_with fail
              refine H2.out.mono ?_
              rintro e w' ⟨rfl, rfl⟩
              go_wp2_with fail
              refine H3.out.mono ?_
              rintro e w' ⟨rfl, rfl⟩
              go_wp2_with fail
              go_loopw [15, 59] (fun v i wr => ∃ (k : Nat) (M : List Prf) (a1 : Option Addr) (c1 : Nat), k ≤ l.length ∧ i = .int .i64 k ∧ v = .slice a1 M.length c1 ∧ M = addsL (l.take k) ∧ NoneTo badP l k ∧ OwnP w wr a1 c1 M) (fun _ i _ => l.length - (intOf i).toNat)
              case atStart => exact ⟨0, [], none, 0, Nat.zero_le _, rfl, rfl, rfl, NoneTo.zero _ _, OwnL.start w⟩
              case round =>
                obtain ⟨k, M, a1, c1, hk, rfl, rfl, hM, hnn, ho⟩ := hrel
                have hml : M.length ≤ k := by rw [hM]; exact adds_few l k
                have HMM := hid hM
                have HN := hid hnn
                have HO := hid ho
                clear hM hnn
                by_cases hlt : k < l.length
                · obtain ⟨b, off, rfl, hb, hc0, hc1⟩ := PrfsAt.get (HL.out.keptN ho.kept) hlt
                  have hb1 : (0 : Int) ≤ k := by omega
                  have hb2 : (k : Int) < l.length := by omega
                  have HLT := hid hlt
                  have HSN := hid (addsL_snoc l k hlt)
                  have HYES := hid (fun e => HN.out.next hlt e)
                  have HAT := hid (fun e => addsE_at HN.out hlt e)
                  have HBP := hid (show badP l[k] = (addE l[k] != 0) from rfl)
                  clear ho
                  generalize l[k] = p at *
                  have HAD := hid (padd_any (cap := c1) ((HO.out.seq encPOk).keptN ((Kept.refl [] wr).alloc (.cells #[.int .i64 p.1, .int .i64 p.2] 59 (0, 0)))) (by omega) p)
                  by_cases he : addE p = 0
                  · have HAD1 := hid (HAD.out.mono fun _ _ h => h.ok he)
                    have HY2 := hid (HYES.out (by rw [HBP.out, he]; rfl))
                    have HK2 := hid (show addL M p = addsL (l.take (k + 1)) by rw [HSN.out, HMM.out])
                    obtain ⟨M2, HM2⟩ : ∃ M2, Hid (addL M p = M2) := ⟨_, hid rfl⟩
                    rw [HM2.out] at HAD1 HK2
                    clear he
                    go_wp2_with (go_at_call 33; refine HAD1.out.mono ?_; rintro e w2 ⟨a2, c2', rfl, o2⟩)
                    go_roundw
                    case rel => exact ⟨k + 1, M2, a2, c2', by have := HLT.out; omega, by go_num, rfl, HK2.out, HY2.out, o2.rebase (HO.out.kept.alloc _)⟩
                    case measure => simp [intOf]; omega
                  · have HAD1 := hid (HAD.out.mono fun _ _ h => h.err he)
                    have HE := hid (HAT.out (by rw [HBP.out]; simpa using he))
                    have E := hid (show startC (absW X) s.data.toList user.data.toList tenant.data.toList device.data.toList l = addE p by rw [HC2.out, if_neg HZ.out, if_pos (by rw [HE.out.1]; exact he), HE.out.1])
                    rw [E.out, if_neg he] at EU
                    have hne : (addE p != 0) = true := by simpa using he
                    generalize addE p = c at *
                    clear he
                    go_wp2_with (go_at_call 33; refine HAD1.out.mono ?_; rintro e w2 ⟨rfl, k2⟩)
                    go_ret
                    rw [E.out, EU.out]
                    exact ⟨rfl, Left.same HH.out ((HO.out.kept.alloc _).step k2 (by simp))⟩
                · have hk2 : k = l.length := by omega
                  subst hk2
                  have HML := hid (show M = addsL l by rw [HMM.out, List.take_length])
                  have HE0 := hid (show addsE l = 0 from addsE_none (HN.out.all (Nat.le_refl _)))
                  have HC3 := hid (show startC (absW X) s.data.toList user.data.toList tenant.data.toList device.data.toList l = if 256 ≤ X.length then 3 else 0 by rw [HC2.out, if_neg HZ.out, if_neg (by rw [HE0.out]; simp), absW_len])
                  have hc2r := (HH.out.keptN ho.kept).c2
                  have hlnr := (HH.out.keptN ho.kept).lenrun
                  clear hln hlk c2 ho
                  by_cases hf : 256 ≤ X.length
                  · have E := hid (show startC (absW X) s.data.toList user.data.toList tenant.data.toList device.data.toList l = 3 by rw [HC3.out, if_pos hf])
                    rw [E.out] at EU
                    have hf2 : (256 : Int) ≤ X.length := by omega
                    go_wp2_with fail
                    go_ret
                    rw [E.out, EU.out]
                    exact ⟨rfl, Left.same HH.out HO.out.kept⟩
                  · have E := hid (show startC (absW X) s.data.toList user.data.toList tenant.data.toList device.data.toList l = 0 by rw [HC3.out, if_neg hf])
                    rw [E.out, if_pos rfl] at EU
                    have hf2 : (X.length : Int) < 256 := by omega
                    have HF := hid (show X.length < 256 by omega)
                    clear hf
                    obtain ⟨x0, HX0⟩ : ∃ x0 : Sess, Hid (x0 = { user := user.data.toList, tenant := tenant.data.toList, device := device.data.toList, started := lim now, seen := lim now, until_ := 0, proofs := M, clients := [], ended := false }) := ⟨_, hid rfl⟩
                    have HNA := hid (newAt (id := s.data.toList) (x := x0) (a := a1) (c := c1) (w0 := w) (w := wr) (by rw [HX0.out]; exact HO.out) (by rw [HX0.out]))
                    have HBX := hid (show entV ⟨wr.heap.size, a1, c1, none, 0, s.data.toList, x0⟩ = #[.string s, .string user, .string tenant, .string device, .int .i64 (lim now), .int .i64 (lim now), .int .i64 0, .slice a1 M.length c1, .slice none 0 0, .bool false] by rw [HX0.out]; unfold entV sV; rfl)
                    rw [HBX.out] at HNA
                    have hkw := HO.out.kept.alloc (.cells #[.string s, .string user, .string tenant, .string device, .int .i64 (lim now), .int .i64 (lim now), .int .i64 0, .slice a1 M.length c1, .slice none 0 0, .bool false] 70 (0, 0))
                    have hsz := HO.out.kept.size
                    obtain ⟨wb, HWB⟩ : ∃ wb, Hid (wb = wr.alloc (.cells #[.string s, .string user, .string tenant, .string device, .int .i64 (lim now), .int .i64 (lim now), .int .i64 0, .slice a1 M.length c1, .slice none 0 0, .bool false] 70 (0, 0))) := ⟨_, hid rfl⟩
                    rw [← HWB.out] at HNA hkw
                    have HKW := hid hkw
                    have d4 := HNA.out.ec.c4
                    have d5 := HNA.out.ec.c5
                    simp only [HX0.out] at d4 d5
                    have HUN := hid (until_any (HH.out.keptN hkw).c0 (HH.out.keptN hkw).c1 d4 d5)
                    have hszb : wr.heap.size < wb.heap.size := lt_of_heap HNA.out.blk
                    have HSTART := hid (fun w3 (hd3 : DrewN wb w3) => HH.out.start s hs HQ.out HF.out (q := ⟨wr.heap.size, a1, c1, none, 0, s.data.toList, newX idle abs user.data.toList tenant.data.toList device.data.toList l now⟩) (((HKW.out.step hd3.kept (by simp)).setCell (p := ⟨wr.heap.size, 6, none⟩) (.inr hsz) (.int .i64 (min (addI (lim now) idle) (addI (lim now) abs))))) ((HNA.out.atD hd3).set _ 6 (.int .i64 (min (addI (lim now) idle) (addI (lim now) abs))) (by rw [HX0.out, HML.out]; rfl) rfl rfl rfl rfl rfl (by rw [HX0.out]; exact HML.out.symm) (by rw [HX0.out]; rfl)) (newDom (w0 := w) (w := wr) (x := newX idle abs user.data.toList tenant.data.toList device.data.toList l now) (by show OwnP w wr a1 c1 (addsL l); rw [← HML.out]; exact HO.out) hsz (Nat.le_refl _)) (Inv.new _ _ _ _ HE0.out HZ.out) w1 rfl)
                    have HC6 := hid (fun w3 (hd3 : DrewN wb w3) => And.intro (HNA.out.atD hd3).ec.c6 (And.intro ((HNA.out.atD hd3).free 6) ((HH.out.keptN (HKW.out.step hd3.kept (by simp))).c2)))
                    have HN2 := hid (fun w3 (hd3 : DrewN wb w3) => (kept_one wr.heap.size w3 6 (.int .i64 (min (addI (lim now) idle) (addI (lim now) abs)))).cell (p := ⟨sb, 2, none⟩) (by have := lt_of_heap HH.out.blk; have := hd3.kept.size; show sb < _; omega) (by have := lt_of_heap HH.out.blk; simp; omega))
                    clear hkw d4 d5
                    go_wp2_with (go_at_call 30; refine (add0_any _ _).mono ?_; rintro e w' ⟨rfl, rfl⟩)
                    rw [← HWB.out]
                    refine HUN.out.mono ?_
                    rintro e w3 ⟨rfl, hd3⟩
                    obtain ⟨w9, hr9, hL9⟩ := HSTART.out w3 hd3
                    obtain ⟨d6, f6, g2⟩ := HC6.out w3 hd3
                    have g3 := (HN2.out w3 hd3).trans g2
                    go_wp2_with fail
                    go_ret
                    rw [E.out, EU.out]
                    exact ⟨rfl, hL9⟩
        · have hdb2 : (device.toList == ([] : List UInt8)) = false := by rw [ByteArray.toList_eq]; simpa using hde
          cases w4 : wordB device.data.toList
          · rw [w4] at H4
            have HDE := hid (show devB device.data.toList = false by unfold devB; rw [w4]; simpa using hde)
            clear hde
            have E := hid (show startC (absW X) s.data.toList user.data.toList tenant.data.toList device.data.toList l = 5 from start_noword (by rw [w1, w2, w3, HDE.out]; simp))
            rw [E.out] at EU
            rw [E.out, EU.out]
            clear h hl hlk hln
            go_enter Try.func9, Try.ntmps9
            go_wp2_with (go_at_call 31; refine (made_any c2).mono ?_; rintro e w' ⟨rfl, rfl⟩)
            refine H1.out.mono ?_
            rintro e w' ⟨rfl, rfl⟩
            go_wp2_with fail
            refine H2.out.mono ?_
            rintro e w' ⟨rfl, rfl⟩
            go_wp2_with fail
            refine H3.out.mono ?_
            rintro e w' ⟨rfl, rfl⟩
            go_wp2_with fail
            refine H4.out.mono ?_
            rintro e w' ⟨rfl, rfl⟩
            go_wp2_with fail
            go_ret
            exact ⟨rfl, Left.same HH.out (Kept.refl _ _)⟩
          · rw [w4] at H4
            have HDE := hid (show devB device.data.toList = true by unfold devB; rw [w4]; simp)
            clear hde
            have HWW := hid (show (wordB s.data.toList && wordB user.data.toList && wordB tenant.data.toList && devB device.data.toList) = true by rw [w1, w2, w3]; exact HDE.out)
            have HC := hid (start_word (U := absW X) (l := l) HWW.out)
            cases hq : alook X s.data.toList with
            | some q =>
              have E := hid (show startC (absW X) s.data.toList user.data.toList tenant.data.toList device.data.toList l = 7 by rw [HC.out, absW_look, hq]; rfl)
              rw [E.out] at EU
              rw [E.out, EU.out]
              rw [hq, pval_some] at hlk
              clear h hl hq hln HC
              go_enter Try.func9, Try.ntmps9
              go_wp2_with (go_at_call 31; refine (made_any c2).mono ?_; rintro e w' ⟨rfl, rfl⟩)
              refine H1.out.mono ?_
              rintro e w' ⟨rfl, rfl⟩
              go_wp2_with fail
              refine H2.out.mono ?_
              rintro e w' ⟨rfl, rfl⟩
              go_wp2_with fail
              refine H3.out.mono ?_
              rintro e w' ⟨rfl, rfl⟩
              go_wp2_with fail
              refine H4.out.mono ?_
              rintro e w' ⟨rfl, rfl⟩
              go_wp2_with fail
              go_ret
              exact ⟨rfl, Left.same HH.out (Kept.refl _ _)⟩
            | none =>
              have HC2 := hid (show startC (absW X) s.data.toList user.data.toList tenant.data.toList device.data.toList l = if l.length = 0 then 21 else if addsE l ≠ 0 then addsE l else if 256 ≤ (absW X).length then 3 else 0 by rw [HC.out, absW_look, hq]; rfl)
              rw [hq, pval_none] at hlk
              have HQ := hid hq
              clear h hl hq HC
              by_cases hz : l.length = 0
              · have E := hid (show startC (absW X) s.data.toList user.data.toList tenant.data.toList device.data.toList l = 21 by rw [HC2.out, if_pos hz])
                rw [E.out] at EU
                rw [E.out, EU.out]
                have hz2 : ((l.length : Int) == 0) = true := by rw [hz]; rfl
                clear HC2
                go_enter Try.func9, Try.ntmps9
                go_wp2_with (go_at_call 31; refine (made_any c2).mono ?_; rintro e w' ⟨rfl, rfl⟩)
                refine H1.out.mono ?_
                rintro e w' ⟨rfl, rfl⟩
                go_wp2_with fail
                refine H2.out.mono ?_
                rintro e w' ⟨rfl, rfl⟩
                go_wp2_with fail
                refine H3.out.mono ?_
                rintro e w' ⟨rfl, rfl⟩
                go_wp2_with fail
                refine H4.out.mono ?_
                rintro e w' ⟨rfl, rfl⟩
                go_wp2_with fail
                go_ret
                exact ⟨rfl, Left.same HH.out (Kept.refl _ _)⟩
              · have HZ := hid hz
                have hz2 : ((l.length : Int) == 0) = false := by rw [beq_eq_false_iff_ne]; omega
                clear hz
                go_enter Try.func9, Try.ntmps9
                go_wp2_with (go_at_call 31; refine (made_any c2).mono ?_; rintro e w' ⟨rfl, rfl⟩)
                refine H1.out.mono ?_
                rintro e w' ⟨rfl, rfl⟩
                go_wp2_with fail
                refine H2.out.mono ?_
                rintro e w' ⟨rfl, rfl⟩
                go_wp2_with fail
                refine H3.out.mono ?_
                rintro e w' ⟨rfl, rfl⟩
                go_wp2_with fail
                refine H4.out.mono ?_
                rintro e w' ⟨rfl, rfl⟩
                go_wp2_with fail
                go_loopw [15, 59] (fun v i wr => ∃ (k : Nat) (M : List Prf) (a1 : Option Addr) (c1 : Nat), k ≤ l.length ∧ i = .int .i64 k ∧ v = .slice a1 M.length c1 ∧ M = addsL (l.take k) ∧ NoneTo badP l k ∧ OwnP w wr a1 c1 M) (fun _ i _ => l.length - (intOf i).toNat)
                case atStart => exact ⟨0, [], none, 0, Nat.zero_le _, rfl, rfl, rfl, NoneTo.zero _ _, OwnL.start w⟩
                case round =>
                  obtain ⟨k, M, a1, c1, hk, rfl, rfl, hM, hnn, ho⟩ := hrel
                  have hml : M.length ≤ k := by rw [hM]; exact adds_few l k
                  have HMM := hid hM
                  have HN := hid hnn
                  have HO := hid ho
                  clear hM hnn
                  by_cases hlt : k < l.length
                  · obtain ⟨b, off, rfl, hb, hc0, hc1⟩ := PrfsAt.get (HL.out.keptN ho.kept) hlt
                    have hb1 : (0 : Int) ≤ k := by omega
                    have hb2 : (k : Int) < l.length := by omega
                    have HLT := hid hlt
                    have HSN := hid (addsL_snoc l k hlt)
                    have HYES := hid (fun e => HN.out.next hlt e)
                    have HAT := hid (fun e => addsE_at HN.out hlt e)
                    have HBP := hid (show badP l[k] = (addE l[k] != 0) from rfl)
                    clear ho
                    generalize l[k] = p at *
                    have HAD := hid (padd_any (cap := c1) ((HO.out.seq encPOk).keptN ((Kept.refl [] wr).alloc (.cells #[.int .i64 p.1, .int .i64 p.2] 59 (0, 0)))) (by omega) p)
                    by_cases he : addE p = 0
                    · have HAD1 := hid (HAD.out.mono fun _ _ h => h.ok he)
                      have HY2 := hid (HYES.out (by rw [HBP.out, he]; rfl))
                      have HK2 := hid (show addL M p = addsL (l.take (k + 1)) by rw [HSN.out, HMM.out])
                      obtain ⟨M2, HM2⟩ : ∃ M2, Hid (addL M p = M2) := ⟨_, hid rfl⟩
                      rw [HM2.out] at HAD1 HK2
                      clear he
                      go_wp2_with (go_at_call 33; refine HAD1.out.mono ?_; rintro e w2 ⟨a2, c2', rfl, o2⟩)
                      go_roundw
                      case rel => exact ⟨k + 1, M2, a2, c2', by have := HLT.out; omega, by go_num, rfl, HK2.out, HY2.out, o2.rebase (HO.out.kept.alloc _)⟩
                      case measure => simp [intOf]; omega
                    · have HAD1 := hid (HAD.out.mono fun _ _ h => h.err he)
                      have HE := hid (HAT.out (by rw [HBP.out]; simpa using he))
                      have E := hid (show startC (absW X) s.data.toList user.data.toList tenant.data.toList device.data.toList l = addE p by rw [HC2.out, if_neg HZ.out, if_pos (by rw [HE.out.1]; exact he), HE.out.1])
                      rw [E.out, if_neg he] at EU
                      have hne : (addE p != 0) = true := by simpa using he
                      generalize addE p = c at *
                      clear he
                      go_wp2_with (go_at_call 33; refine HAD1.out.mono ?_; rintro e w2 ⟨rfl, k2⟩)
                      go_ret
                      rw [E.out, EU.out]
                      exact ⟨rfl, Left.same HH.out ((HO.out.kept.alloc _).step k2 (by simp))⟩
                  · have hk2 : k = l.length := by omega
                    subst hk2
                    have HML := hid (show M = addsL l by rw [HMM.out, List.take_length])
                    have HE0 := hid (show addsE l = 0 from addsE_none (HN.out.all (Nat.le_refl _)))
                    have HC3 := hid (show startC (absW X) s.data.toList user.data.toList tenant.data.toList device.data.toList l = if 256 ≤ X.length then 3 else 0 by rw [HC2.out, if_neg HZ.out, if_neg (by rw [HE0.out]; simp), absW_len])
                    have hc2r := (HH.out.keptN ho.kept).c2
                    have hlnr := (HH.out.keptN ho.kept).lenrun
                    clear hln hlk c2 ho
                    by_cases hf : 256 ≤ X.length
                    · have E := hid (show startC (absW X) s.data.toList user.data.toList tenant.data.toList device.data.toList l = 3 by rw [HC3.out, if_pos hf])
                      rw [E.out] at EU
                      have hf2 : (256 : Int) ≤ X.length := by omega
                      go_wp2_with fail
                      go_ret
                      rw [E.out, EU.out]
                      exact ⟨rfl, Left.same HH.out HO.out.kept⟩
                    · have E := hid (show startC (absW X) s.data.toList user.data.toList tenant.data.toList device.data.toList l = 0 by rw [HC3.out, if_neg hf])
                      rw [E.out, if_pos rfl] at EU
                      have hf2 : (X.length : Int) < 256 := by omega
                      have HF := hid (show X.length < 256 by omega)
                      clear hf
                      obtain ⟨x0, HX0⟩ : ∃ x0 : Sess, Hid (x0 = { user := user.data.toList, tenant := tenant.data.toList, device := device.data.toList, started := lim now, seen := lim now, until_ := 0, proofs := M, clients := [], ended := false }) := ⟨_, hid rfl⟩
                      have HNA := hid (newAt (id := s.data.toList) (x := x0) (a := a1) (c := c1) (w0 := w) (w := wr) (by rw [HX0.out]; exact HO.out) (by rw [HX0.out]))
                      have HBX := hid (show entV ⟨wr.heap.size, a1, c1, none, 0, s.data.toList, x0⟩ = #[.string s, .string user, .string tenant, .string device, .int .i64 (lim now), .int .i64 (lim now), .int .i64 0, .slice a1 M.length c1, .slice none 0 0, .bool false] by rw [HX0.out]; unfold entV sV; rfl)
                      rw [HBX.out] at HNA
                      have hkw := HO.out.kept.alloc (.cells #[.string s, .string user, .string tenant, .string device, .int .i64 (lim now), .int .i64 (lim now), .int .i64 0, .slice a1 M.length c1, .slice none 0 0, .bool false] 70 (0, 0))
                      have hsz := HO.out.kept.size
                      obtain ⟨wb, HWB⟩ : ∃ wb, Hid (wb = wr.alloc (.cells #[.string s, .string user, .string tenant, .string device, .int .i64 (lim now), .int .i64 (lim now), .int .i64 0, .slice a1 M.length c1, .slice none 0 0, .bool false] 70 (0, 0))) := ⟨_, hid rfl⟩
                      rw [← HWB.out] at HNA hkw
                      have HKW := hid hkw
                      have d4 := HNA.out.ec.c4
                      have d5 := HNA.out.ec.c5
                      simp only [HX0.out] at d4 d5
                      have HUN := hid (until_any (HH.out.keptN hkw).c0 (HH.out.keptN hkw).c1 d4 d5)
                      have hszb : wr.heap.size < wb.heap.size := lt_of_heap HNA.out.blk
                      have HSTART := hid (fun w3 (hd3 : DrewN wb w3) => HH.out.start s hs HQ.out HF.out (q := ⟨wr.heap.size, a1, c1, none, 0, s.data.toList, newX idle abs user.data.toList tenant.data.toList device.data.toList l now⟩) (((HKW.out.step hd3.kept (by simp)).setCell (p := ⟨wr.heap.size, 6, none⟩) (.inr hsz) (.int .i64 (min (addI (lim now) idle) (addI (lim now) abs))))) ((HNA.out.atD hd3).set _ 6 (.int .i64 (min (addI (lim now) idle) (addI (lim now) abs))) (by rw [HX0.out, HML.out]; rfl) rfl rfl rfl rfl rfl (by rw [HX0.out]; exact HML.out.symm) (by rw [HX0.out]; rfl)) (newDom (w0 := w) (w := wr) (x := newX idle abs user.data.toList tenant.data.toList device.data.toList l now) (by show OwnP w wr a1 c1 (addsL l); rw [← HML.out]; exact HO.out) hsz (Nat.le_refl _)) (Inv.new _ _ _ _ HE0.out HZ.out) w1 rfl)
                      have HC6 := hid (fun w3 (hd3 : DrewN wb w3) => And.intro (HNA.out.atD hd3).ec.c6 (And.intro ((HNA.out.atD hd3).free 6) ((HH.out.keptN (HKW.out.step hd3.kept (by simp))).c2)))
                      have HN2 := hid (fun w3 (hd3 : DrewN wb w3) => (kept_one wr.heap.size w3 6 (.int .i64 (min (addI (lim now) idle) (addI (lim now) abs)))).cell (p := ⟨sb, 2, none⟩) (by have := lt_of_heap HH.out.blk; have := hd3.kept.size; show sb < _; omega) (by have := lt_of_heap HH.out.blk; simp; omega))
                      clear hkw d4 d5
                      go_wp2_with (go_at_call 30; refine (add0_any _ _).mono ?_; rintro e w' ⟨rfl, rfl⟩)
                      rw [← HWB.out]
                      refine HUN.out.mono ?_
                      rintro e w3 ⟨rfl, hd3⟩
                      obtain ⟨w9, hr9, hL9⟩ := HSTART.out w3 hd3
                      obtain ⟨d6, f6, g2⟩ := HC6.out w3 hd3
                      have g3 := (HN2.out w3 hd3).trans g2
                      go_wp2_with fail
                      go_ret
                      rw [E.out, EU.out]
                      exact ⟨rfl, hL9⟩
end Go.Proofs.Ytakccoiecmibcaa
