/- daily.From: the view that days tell. -/
import Derived.Test.YtejmndfdmikfaaaDoorFromM9
import Derived.Test.YtejmndfdmikfaaaDoorDailyBack
import Derived.Sort.Walk0
namespace Go.Proofs.YtejmndfdmikfaaaDoor.Kit
open Go Go.RowKit

/-- It can stand in memory. -/
def Dr.Ok (r : Dr) : Prop := r.acct.length ≤ 1048576 ∧ (-9223372036854775808 ≤ r.chg ∧ r.chg ≤ 9223372036854775807) ∧ (-9223372036854775808 ≤ r.bal ∧ r.bal ≤ 9223372036854775807)
def FromPost9 (w : World) (rs : List Dr) (e : Ending) (w' : World) : Prop :=
  (okF rs ∧ ∃ v F, e = .returned (.tuple #[.pointer (some ⟨v, 0, none⟩), .int .i64 0]) ∧ ViewD w' v (ofF rs) F rs.length ∧ New w w' ∧ ∀ k, F k → w.heap.size ≤ k) ∨
  (¬ okF rs ∧ e = .returned (.tuple #[.pointer none, .int .i64 80]) ∧ New w w')
theorem FromPost9.bad {w w' : World} {rs : List Dr} {k : Nat} {r : Dr} (hr : rs[k]? = some r) (h : ¬ okR (prevOf rs k) r) (hn : New w w') : FromPost9 w rs (.returned (.tuple #[.pointer none, .int .i64 80])) w' :=
  .inr ⟨fun ho => h (ho k r hr), rfl, hn⟩
theorem less_b (a b : List UInt8) : Op.bytesLess (bstr a).toList (bstr b).toList = decide (a < b) := by
  rw [Lib.toList_data, Lib.toList_data, bstr_toList, bstr_toList]
  exact bytesLess_eq a b
/-- What a round holds. -/
def FromI (w : World) (v m : Nat) (rs : List Dr) (k : Nat) (wr : World) : Prop := FI rs k ∧ New w wr ∧ ∃ ms, ViewB wr v (ofF (rs.take k)) (fun b => w.heap.size ≤ b) k m ms
theorem from_step {w V : World} {v m k : Nat} {rs : List Dr} {r : Dr} {ms : Ms (Int × Int × Int)} {s : Sl (Int × Int × Int)} (hok : ∀ r ∈ rs, r.Ok) (hI : FI rs (k + 1)) (h0 : FI rs k) (hr : rs[k]? = some r)
    (hB : ∀ n, (ms.at_ n).l = days (ofF (rs.take k) n)) (hs : s.l = (ms.at_ r.acct).l ++ [(r.day, r.chg, r.bal)]) (hblk : V.heap[v]? = some (.cells #[.map (some m)] 94 (0, 0)))
    (hm : MapS V m 107 3 dcells (ms.set r.acct s)) (hF : ∀ b, (b = v ∨ b = m ∨ b ∈ blks (ms.set r.acct s).sls) → w.heap.size ≤ b) (htot : ms.tot ≤ k) (hlen : ms.length ≤ k) (hnd : ms.keys.Nodup) :
    ViewB V v (ofF (rs.take (k + 1))) (fun b => w.heap.size ≤ b) (k + 1) m (ms.set r.acct s) := by
  have ht : rs.take (k + 1) = rs.take k ++ [r] := take_get hr
  have hent : ∀ n, ∀ x ∈ days (ofF (rs.take (k + 1)) n), ∃ q ∈ rs.take (k + 1), q.acct = n ∧ q.day = x.1 ∧ goodD n = true ∧ isDayB x.1 = true ∧ n.length ≤ 1048576 := by
    intro n x hx
    rw [hI.ent] at hx
    unfold entF at hx
    obtain ⟨q, hq, rfl⟩ := List.mem_map.1 hx
    obtain ⟨h1, h2⟩ := List.mem_filter.1 hq
    have h3 : q.acct = n := by simpa using h2
    obtain ⟨i, hi⟩ := List.getElem?_of_mem h1
    rw [List.getElem?_take] at hi
    split at hi
    · rename_i hik
      have ho := hI.ok i q hik hi
      refine ⟨q, h1, h3, rfl, h3 ▸ ho.1, ho.2.1, ?_⟩
      rw [← h3]
      exact (hok q (List.mem_of_getElem? hi)).1
    · cases hi
  refine ⟨hblk, hm, fun n => ?_, hF, hI.fit, fun n hn => ?_, fun n x hx => ?_, ?_, ?_⟩
  · rw [Ms.set_at, hI.ent, ht, entF_snoc]
    split
    · rename_i e
      rw [hs, hB, h0.ent, e]
    · rw [hB, h0.ent]
  · obtain ⟨x, hx⟩ := List.exists_mem_of_ne_nil _ hn
    obtain ⟨q, _, _, _, h1, _, h2⟩ := hent n x hx
    exact ⟨h1, h2⟩
  · obtain ⟨q, _, _, _, _, h1, _⟩ := hent n x hx
    exact h1
  · have := Ms.tot_set hnd r.acct s
    rw [hs, List.length_append] at this
    simp only [List.length_cons, List.length_nil] at this
    omega
  · have := Ms.set_length ms r.acct s
    omega
set_option maxRecDepth 100000 in
set_option maxHeartbeats 16000000 in
theorem From9_calls (w : World) (A : Option Addr) (n c : Nat) (rs : List Dr) (hP : RdDr w A rs) (hn : n = rs.length) (hok : ∀ r ∈ rs, r.Ok) (hb : n ≤ 1099511627776) :
    Calls Tryd.prog 29 #[.slice A n c] w (FromPost9 w rs) := by
  have hmo : Tryd.prog.follows Departure.mixedOrders = true := by kernel_rfl
  have HP := Lib.hid (And.intro hP (And.intro hn hok))
  clear hP hn hok
  go_enter Tryd.func29, Tryd.ntmps29
  go_wp2_with fail
  refine (New9_calls w).mono ?_
  rintro e W1 ⟨v, F, rfl, ⟨m, ms0, hV⟩, hn1, hF⟩
  have hms : ms0 = [] := List.eq_nil_of_length_eq_zero (by have := hV.len; omega)
  subst hms
  have hvm : v ≠ m := fun e => by
    have h1 := hV.blk
    obtain ⟨es, clock, h2, _⟩ := hV.map.map
    rw [e, h2] at h1
    cases h1
  have hI0 : FromI w v m rs 0 W1 := ⟨FI.zero rs, hn1, [], hV.blk, hV.map, hV.shows, fun b hb => hF b (hV.foot b hb), hV.fit, hV.good, hV.isday, hV.tot, hV.len⟩
  have HI0 := Lib.hid (And.intro hI0 hvm)
  clear hV hn1 hF hI0 hvm
  go_wp2_with fail
  go_loopw [14] (fun i wr => ∃ k : Nat, i = .int .i64 (k : Int) ∧ k ≤ n ∧ Hid (FromI w v m rs k wr)) (fun i _ => n - (intOf i).toNat)
  case atStart => exact ⟨0, rfl, Nat.zero_le _, Lib.hid HI0.out.1⟩
  case round =>
    obtain ⟨k, rfl, hk, HI⟩ := hrel
    have hk0 : (0 : Int) ≤ k := by omega
    by_cases hlt : k < n
    · have hki : (k : Int) < (n : Int) := by omega
      obtain ⟨r, hr⟩ : ∃ r, rs[k]? = some r := ⟨_, List.getElem?_eq_getElem (by have := HP.out.2.1; omega)⟩
      obtain ⟨hFI, hnw, ms, hV⟩ := HI.out
      obtain ⟨b1, o1, rfl, q0, q1, q2, q3⟩ := RdDr.at_ (HP.out.1.new hnw) hr
      have hro := HP.out.2.2 r (List.mem_of_getElem? hr)
      obtain ⟨W2, hW2⟩ : ∃ W2, wr.alloc (.cells #[.string (bstr r.acct), .int .i64 r.day, .int .i64 r.chg, .int .i64 r.bal] 62) = W2 := ⟨_, rfl⟩
      have n2 : New wr W2 := hW2 ▸ Kp.alloc _ _ _
      have b2 : W2.heap[wr.heap.size]? = some (.cells #[.string (bstr r.acct), .int .i64 r.day, .int .i64 r.chg, .int .i64 r.bal] 62 (0, 0)) := hW2 ▸ heap_alloc_new wr _
      have hG := Good9_calls W2 r.acct (by have := hro.1; omega)
      have hbad : ¬ okR (prevOf rs k) r → ∀ V, New wr V → FromPost9 w rs (.returned (.tuple #[.pointer none, .int .i64 80])) V := fun h V hn => FromPost9.bad hr h (hnw.trans hn (fun _ _ h => h) (fun _ _ h => h))
      have HH := Lib.hid (And.intro hr (And.intro hFI (And.intro hnw (And.intro hV (And.intro hro (And.intro n2 (And.intro b2 (And.intro hbad hW2))))))))
      have HG := Lib.hid hG
      clear hr hFI hnw hV hro n2 b2 hbad hW2 hG
      go_wp2_with fail
      rw [HH.out.2.2.2.2.2.2.2.2]
      refine HG.out.mono ?_
      rintro e W3 ⟨rfl, hn3⟩
      have b3 := (hn3.block _ (Array.getElem?_eq_some_iff.1 HH.out.2.2.2.2.2.2.1).1 id).trans HH.out.2.2.2.2.2.2.1
      have c0 : W3.cell? ⟨wr.heap.size, 0, none⟩ = some (.string (bstr r.acct)) := (cell_of_block b3).trans rfl
      have c1 : W3.cell? ⟨wr.heap.size, 1, none⟩ = some (.int .i64 r.day) := (cell_of_block b3).trans rfl
      have c2 : W3.cell? ⟨wr.heap.size, 2, none⟩ = some (.int .i64 r.chg) := (cell_of_block b3).trans rfl
      have c3 : W3.cell? ⟨wr.heap.size, 3, none⟩ = some (.int .i64 r.bal) := (cell_of_block b3).trans rfl
      have n3 : New wr W3 := HH.out.2.2.2.2.2.1.trans hn3 (fun _ _ h => h) (fun _ _ h => h)
      have H3 := Lib.hid (And.intro n3 b3)
      clear hn3 b3 n3 q0 q1 q2 q3
      cases hg : goodD r.acct with
      | false =>
        have HB := Lib.hid (HH.out.2.2.2.2.2.2.2.1 (fun h => by rw [h.1] at hg; cases hg))
        clear hg
        go_wp2_with fail
        go_ret2
        exact HB.out _ H3.out.1
      | true =>
      have hI := isDay_calls W3 r.day
      cases hd : isDayB r.day with
      | false =>
        rw [hd] at hI
        have HB := Lib.hid (HH.out.2.2.2.2.2.2.2.1 (fun h => by rw [h.2.1] at hd; cases hd))
        clear hg hd
        go_wp2_with fail
        refine hI.mono ?_
        rintro e w3 ⟨rfl, rfl⟩
        clear hI
        go_wp2_with fail
        go_ret2
        exact HB.out _ H3.out.1
      | true =>
      rw [hd] at hI
      have HGD := Lib.hid (And.intro hg hd)
      clear hg hd
      by_cases hz : r.chg = 0
      · have hzb : (r.chg == (0 : Int)) = true := by simpa using hz
        have HB := Lib.hid (HH.out.2.2.2.2.2.2.2.1 (fun h => h.2.2.1 hz))
        clear hz
        go_wp2_with fail
        refine hI.mono ?_
        rintro e w3 ⟨rfl, rfl⟩
        clear hI
        go_wp2_with fail
        go_ret2
        exact HB.out _ H3.out.1
      have hzb : (r.chg == (0 : Int)) = false := by simpa using hz
      have hC1 := Check_calls W3 r.chg
      have hC2 := Check_calls W3 r.bal
      by_cases hm1 : r.chg = -9223372036854775808
      · rw [if_pos hm1] at hC1
        have HB := Lib.hid (HH.out.2.2.2.2.2.2.2.1 (fun h => by have := h.2.2.2.1.1; omega))
        clear hm1 hz
        go_wp2_with fail
        refine hI.mono ?_
        rintro e w3 ⟨rfl, rfl⟩
        clear hI
        go_wp2_with fail
        refine hC1.mono ?_
        rintro e w3 ⟨rfl, rfl⟩
        clear hC1
        go_wp2_with fail
        go_ret2
        exact HB.out _ H3.out.1
      rw [if_neg hm1] at hC1
      by_cases hm2 : r.bal = -9223372036854775808
      · rw [if_pos hm2] at hC2
        have HB := Lib.hid (HH.out.2.2.2.2.2.2.2.1 (fun h => by have := h.2.2.2.2.1.1; omega))
        clear hm1 hz hm2
        go_wp2_with fail
        refine hI.mono ?_
        rintro e w3 ⟨rfl, rfl⟩
        clear hI
        go_wp2_with fail
        refine hC1.mono ?_
        rintro e w3 ⟨rfl, rfl⟩
        clear hC1
        go_wp2_with fail
        refine hC2.mono ?_
        rintro e w3 ⟨rfl, rfl⟩
        clear hC2
        go_wp2_with fail
        go_ret2
        exact HB.out _ H3.out.1
      rw [if_neg hm2] at hC2
      have hach : amtD r.chg ∧ amtD r.bal := by have := HH.out.2.2.2.2.1; unfold Dr.Ok at this; unfold amtD; omega
      have HA := Lib.hid (And.intro hz hach)
      clear hz hm1 hm2 hach
      go_wp2_with fail
      refine hI.mono ?_
      rintro e w3 ⟨rfl, rfl⟩
      clear hI
      go_wp2_with fail
      refine hC1.mono ?_
      rintro e w3 ⟨rfl, rfl⟩
      clear hC1
      go_wp2_with fail
      refine hC2.mono ?_
      rintro e w3 ⟨rfl, rfl⟩
      clear hC2
      go_upto_region 8 with fail
      by_cases hk1 : k = 0
      · have t1 : decide (0 < k) = false := decide_eq_false (by omega)
        have t1i : ¬ (0 : Int) < (k : Int) := by omega
        have hprev : prevOf rs k = none := by unfold prevOf; rw [if_pos hk1]
        have hord : (∀ p, prevOf rs k = some p → p.acct < r.acct ∨ (p.acct = r.acct ∧ p.day < r.day)) ∧ wasOf (prevOf rs k) r = 0 ∧ amtD 0 := ⟨fun p hp => (by rw [hprev] at hp; cases hp), by rw [hprev]; rfl, amtD_zero⟩
        have HO := Lib.hid hord
        have H4 := Lib.hid (And.intro H3.out.1 H3.out.2)
        clear hk1 hprev hord
        go_wp2_with fail
        have hAdd := AddG_calls W3 0 r.chg HO.out.2.2 HA.out.2.1
        by_cases hab : amtD (0 + r.chg)
        case neg =>
          rw [addM_bad hab] at hAdd
          have HB := Lib.hid (HH.out.2.2.2.2.2.2.2.1 (fun h => hab (by have h1 := h.2.2.2.2.2.2; rw [HO.out.2.1] at h1; rw [h1]; exact HA.out.2.2)))
          clear hab
          go_wp2_with fail
          refine hAdd.mono ?_
          rintro e w3 ⟨rfl, rfl⟩
          clear hAdd
          go_wp2_with fail
          go_ret2
          exact HB.out _ H4.out.1
        rw [addM_ok hab] at hAdd
        obtain ⟨sm, hsm⟩ : ∃ sm, 0 + r.chg = sm := ⟨_, rfl⟩
        rw [hsm] at hAdd
        by_cases heq : sm = r.bal
        case neg =>
          have hne : (sm != r.bal) = true := by simpa using heq
          have HB := Lib.hid (HH.out.2.2.2.2.2.2.2.1 (fun h => heq (by have h1 := h.2.2.2.2.2.2; rw [HO.out.2.1, hsm] at h1; exact h1)))
          clear hab hsm heq
          go_wp2_with fail
          refine hAdd.mono ?_
          rintro e w3 ⟨rfl, rfl⟩
          clear hAdd
          go_wp2_with fail
          go_ret2
          exact HB.out _ H4.out.1
        have hne : (sm != r.bal) = false := by simpa using heq
        have hokr : okR (prevOf rs k) r := ⟨HGD.out.1, HGD.out.2, HA.out.1, HA.out.2.1, HA.out.2.2, HO.out.1, by rw [HO.out.2.1, hsm, heq]⟩
        have hV4 := HH.out.2.2.2.1.new H4.out.1
        have HK := Lib.hid (And.intro hokr hV4)
        clear hab hsm heq hokr
        go_wp2_with fail
        refine hAdd.mono ?_
        rintro e w3 ⟨rfl, rfl⟩
        clear hAdd
        go_wp2_with fail
        clear c0 c1 c2 c3 hne
        obtain ⟨X, hX⟩ : ∃ X, (ms.at_ r.acct).A = X := ⟨_, rfl⟩
        obtain ⟨cx, hcx⟩ : ∃ cx, (ms.at_ r.acct).c = cx := ⟨_, rfl⟩
        obtain ⟨lx, hlx⟩ : ∃ lx, (days (ofF (rs.take k) r.acct)).length = lx := ⟨_, rfl⟩
        have hlxb : lx ≤ k := by rw [← hlx]; exact hV4.len_at r.acct
        have hown := hV4.rd r.acct
        rw [hX, hcx, hlx] at hown
        have hfact : ∀ V : World, V.heap[v]? = W3.heap[v]? → V.heap[m]? = W3.heap[m]? → V.heap[wr.heap.size]? = W3.heap[wr.heap.size]? → V.cell? ⟨v, 0, none⟩ = some (.map (some m)) ∧ V.cell? ⟨wr.heap.size, 0, none⟩ = some (.string (bstr r.acct)) ∧ V.cell? ⟨wr.heap.size, 1, none⟩ = some (.int .i64 r.day) ∧ V.cell? ⟨wr.heap.size, 2, none⟩ = some (.int .i64 r.chg) ∧ V.cell? ⟨wr.heap.size, 3, none⟩ = some (.int .i64 r.bal) ∧ (Instr.lookup 92 (.map (some m)) (.string (bstr r.acct)) false).run Tryd.prog V = .ok (.slice X lx cx) V := fun V h1 h2 h3 => by
          have hb := h3.trans H4.out.2
          have hl := run_look (P := Tryd.prog) Tryd.underlying92 Tryd.underlying9 (z := .slice none 0 0) (w := V) (by have := Tryd.zeroValue98; simp [this]) (hV4.map.map.keep h2) r.acct false
          rw [if_neg (by decide), Ms.at_prs] at hl
          unfold Sl.val at hl
          rw [hV4.shows, hX, hcx, hlx] at hl
          exact ⟨(cell_of_block (h1.trans hV4.blk)).trans rfl, (cell_of_block hb).trans rfl, (cell_of_block hb).trans rfl, (cell_of_block hb).trans rfl, (cell_of_block hb).trans rfl, hl⟩
        have hXb : ∀ b, Bk X b → b ∈ blks ms.sls := fun b hb => Ms.at_bk (ms := ms) (n := r.acct) (by rw [hX]; exact hb)
        have hwl : wr.heap.size < W3.heap.size := (Array.getElem?_eq_some_iff.1 H4.out.2).1
        have hXv : ¬ Bk X v := by
          intro hb
          have h2 := hV4.blk
          rcases hown.2 with ⟨e, _⟩ | ⟨g, cur, e, hg, _⟩
          · rw [e] at hb
            exact absurd hb Bk.none_
          · rw [e] at hb
            have e2 : g = v := Bk.some_.1 hb
            rw [e2, h2] at hg
            cases hg
        have hXn : ¬ Bk X v ∧ ¬ Bk X m ∧ ¬ Bk X wr.heap.size := ⟨hXv, fun hb => hV4.map.not_own (hXb _ hb), fun hb => by have := HH.out.2.2.2.1.map.blk_lt _ (hXb _ hb); omega⟩
        clear hXv
        obtain ⟨hlt1, hlt2, hlt3⟩ := hV4.lt
        have HL := Lib.hid (And.intro hown (And.intro hX (And.intro hcx (And.intro hlx (And.intro hXb (And.intro hXn (And.intro hlt1 (And.intro hlt2 hwl))))))))
        have HF := Lib.hid hfact
        clear hV4 hown hX hcx hlx hfact hXb hXn hlt1 hlt2 hlt3 hwl
        refine wp_region_line (fun w' => w'.cell? ⟨v, 0, none⟩ = some (.map (some m)) ∧ w'.cell? ⟨wr.heap.size, 0, none⟩ = some (.string (bstr r.acct)) ∧ w'.cell? ⟨wr.heap.size, 1, none⟩ = some (.int .i64 r.day) ∧ w'.cell? ⟨wr.heap.size, 2, none⟩ = some (.int .i64 r.chg) ∧ w'.cell? ⟨wr.heap.size, 3, none⟩ = some (.int .i64 r.bal) ∧ (Instr.lookup 92 (.map (some m)) (.string (bstr r.acct)) false).run Tryd.prog w' = .ok (.slice X lx cx) w') (pl := [(0, true), (1, true), (2, true), (3, true), (4, true), (5, true), (6, true), (7, true), (8, true), (9, true), (10, true), (11, true), (12, true), (13, true), (14, true), (15, true), (16, true), (17, true), (18, true), (19, true), (20, true), (21, false), (22, false), (23, false)]) hmo (by kernel_rfl) (HF.out _ rfl rfl rfl) ?_
        iterate 21 (refine line_get rfl rfl (fun K hK => ?_); apply Exists.intro; refine ⟨fun w hS => ?_, ?_⟩; (first | (have hS' := hS rfl; go_simp; with_reducible rfl) | (go_simp; with_reducible rfl)); (go_simp; refine hK _ ?_; clear hK K))
        (refine line_do rfl rfl (fun K hK => ?_); go_simp)
        have nA : New W3 (W3.drew.alloc (.cells #[.int .i64 r.day, .int .i64 r.chg, .int .i64 r.bal] 107)) := (Kp.drew _ _).trans (Kp.alloc _ _ _) (fun _ _ h => h) (fun _ _ h => h)
        refine hK _ _ (fun _ => HF.out _ (nA.block _ HL.out.2.2.2.2.2.2.1 id) (nA.block _ HL.out.2.2.2.2.2.2.2.1 id) (nA.block _ HL.out.2.2.2.2.2.2.2.2 id)) ?_
        clear hK K
        refine line_do rfl rfl (fun K hK => ?_)
        refine wp_append_src _ (.tmp 106) (.tmp 115) 98 98 rfl 107 _ 3 24 Tryd.underlying98 Tryd.info_sums rfl X cx lx ((days (ofF (rs.take k) r.acct)).flatMap dcells) rfl (HL.out.1.new nA) _ rfl 1 _ (Src.ofNew W3.drew Tryd.underlying98 #[.int .i64 r.day, .int .i64 r.chg, .int .i64 r.bal] 107 3 1 1 rfl (by simp [Value.oneCell'])) (by omega) (by omega) ?_
        intro A5 c5 w5 h51 h52 h53
        have k5 : Kp (Bk X) W3 w5 := nA.trans h52 (fun _ _ (h : False) => h.elim) (fun _ _ h => h)
        refine hK _ _ (fun _ => HF.out _ (k5.block _ HL.out.2.2.2.2.2.2.1 HL.out.2.2.2.2.2.1.1) (k5.block _ HL.out.2.2.2.2.2.2.2.1 HL.out.2.2.2.2.2.1.2.1) (k5.block _ HL.out.2.2.2.2.2.2.2.2 HL.out.2.2.2.2.2.1.2.2)) ?_
        clear hK K
        refine line_do rfl rfl (fun K hK => ?_)
        refine wp_mapput 92 (.tmp 97) (.tmp 99) (.tmp 116) rfl 9 98 Tryd.underlying92 Tryd.underlying9 m ms.prs rfl (HK.out.2.map.map.keep (k5.block _ HL.out.2.2.2.2.2.2.2.1 HL.out.2.2.2.2.2.1.2.1)) r.acct rfl (.slice A5 (lx + 1) c5) rfl ?_
        intro w6 m6 k6
        have HS := Lib.hid (And.intro h51 (And.intro h53 (And.intro k5 (And.intro m6 k6))))
        clear h51 h52 h53 k5 m6 k6 nA
        refine hK _ _ (no_need (by kernel_rfl)) ?_
        clear hK K
        refine line_nil ?_
        go_wp2_with fail
        have hl1 : (ms.at_ r.acct).l = days (ofF (rs.take k) r.acct) := HK.out.2.shows r.acct
        have hwsz : w.heap.size ≤ W3.heap.size := Nat.le_trans HH.out.2.2.1.size H4.out.1.size
        have hA5 : ∀ b, Bk A5 b → Bk (ms.at_ r.acct).A b ∨ W3.heap.size ≤ b := fun b hb => by
          rw [HL.out.2.1]
          refine (HS.out.2.1 b hb).imp id fun e => ?_
          simp at e
          omega
        have hA5m : ¬ Bk A5 m := fun hb => by
          rcases HS.out.2.1 _ hb with h | h
          · exact HL.out.2.2.2.2.2.1.2.1 h
          · have := HL.out.2.2.2.2.2.2.2.1
            simp at h
            omega
        have hnm : m ∉ blks ms.sls := HK.out.2.map.not_own
        have hk56 : ∀ b, b < W3.heap.size → b ≠ m → ¬ Bk X b → w6.heap[b]? = W3.heap[b]? := fun b h1 h2 h3 => (HS.out.2.2.2.2.block b (Nat.lt_of_lt_of_le h1 HS.out.2.2.1.size) h2).trans (HS.out.2.2.1.block b h1 h3)
        have hset : MapS w6 m 107 3 dcells (ms.set r.acct ⟨A5, c5, (ms.at_ r.acct).l ++ [(r.day, r.chg, r.bal)]⟩) := by
          refine HK.out.2.map.set r.acct ⟨A5, c5, (ms.at_ r.acct).l ++ [(r.day, r.chg, r.bal)]⟩ ?_ ?_ ?_ ?_
          · have := HS.out.2.2.2.1
            unfold Sl.val
            simp only [List.length_append, List.length_cons, List.length_nil, hl1, HL.out.2.2.2.1]
            exact this
          · unfold OwnS
            simp only [List.length_append, List.length_cons, List.length_nil, List.flatMap_append, hl1, HL.out.2.2.2.1]
            exact Own.kp HS.out.1 HS.out.2.2.2.2 fun b hb e => hA5m (e ▸ hb)
          · intro b hb
            refine (hA5 b hb).imp id fun h hm => ?_
            have := HK.out.2.map.blk_lt b hm
            omega
          · intro y hy hne b hb
            have hbm : b ∈ blks ms.sls := mem_blks.2 ⟨y.2, List.mem_map_of_mem (f := (·.2)) hy, hb⟩
            exact hk56 b (HK.out.2.map.blk_lt b hbm) (fun e => hnm (e ▸ hbm)) fun hx => HK.out.2.map.other hy hne (by rw [HL.out.2.1]; exact hx) hb
        have hnew6 : New w w6 := ((HH.out.2.2.1.trans H4.out.1 (U := fun _ => False) (fun _ _ h => h) (fun _ _ h => h)).trans HS.out.2.2.1 (U := fun _ => False) (fun _ _ h => h) (fun b hb h => by have := HK.out.2.foot b (.inr (.inr (HL.out.2.2.2.2.1 b h))); omega)).trans HS.out.2.2.2.2 (fun _ _ h => h) (fun b hb e => by have := HK.out.2.foot m (.inr (.inl rfl)); omega)
        refine ⟨⟨k + 1, by go_num, by omega, Lib.hid ⟨HH.out.2.1.step HH.out.1 HK.out.1, hnew6, _, from_step HP.out.2.2 (HH.out.2.1.step HH.out.1 HK.out.1) HH.out.2.1 HH.out.1 HK.out.2.shows rfl ?_ hset (fun b hb => ?_) HK.out.2.tot HK.out.2.len HK.out.2.map.nodup⟩⟩, by simp [intOf]; omega⟩
        · exact (hk56 v HL.out.2.2.2.2.2.2.1 HI0.out.2 HL.out.2.2.2.2.2.1.1).trans HK.out.2.blk
        · rcases hb with h | h | h
          · exact HK.out.2.foot b (.inl h)
          · exact HK.out.2.foot b (.inr (.inl h))
          · obtain ⟨z, hz, hB⟩ := mem_blks.1 h
            obtain ⟨y, hy, rfl⟩ := List.mem_map.1 hz
            rcases Ms.mem_set hy with ⟨h1, _⟩ | rfl
            · exact HK.out.2.foot b (.inr (.inr (mem_blks.2 ⟨y.2, List.mem_map_of_mem (f := (·.2)) h1, hB⟩)))
            · rcases hA5 b hB with h | h
              · exact HK.out.2.foot b (.inr (.inr (Ms.at_bk h)))
              · omega
      · have t1 : decide (0 < k) = true := decide_eq_true (by omega)
        have t1i : (0 : Int) < (k : Int) := by omega
        obtain ⟨j, hj⟩ : ∃ j, k = j + 1 := ⟨k - 1, by omega⟩
        obtain ⟨p, hp⟩ : ∃ p, rs[j]? = some p := ⟨_, List.getElem?_eq_getElem (by have := HP.out.2.1; omega)⟩
        have hprev : prevOf rs k = some p := by unfold prevOf; rw [if_neg hk1, show k - 1 = j by omega, hp]
        obtain ⟨b2, o2, he, p0, p1, p2, p3⟩ := RdDr.at_ (HP.out.1.new (HH.out.2.2.1.trans H3.out.1 (U := fun _ => False) (fun _ _ h => h) (fun _ _ h => h))) hp
        cases he
        have hwk : IntKind.i64.wrap ((k : Int) - 1) = (j : Int) := by rw [IntKind.wrap_i64]; omega
        have hji : (j : Int) < (n : Int) := by omega
        have hj0 : (0 : Int) ≤ j := by omega
        obtain ⟨W4, hW4⟩ : ∃ W4, W3.alloc (.cells #[.string (bstr p.acct), .int .i64 p.day, .int .i64 p.chg, .int .i64 p.bal] 62) = W4 := ⟨_, rfl⟩
        have n4 : New W3 W4 := hW4 ▸ Kp.alloc _ _ _
        have b4 : W4.heap[wr.heap.size]? = _ := (n4.block _ (Array.getElem?_eq_some_iff.1 H3.out.2).1 id).trans H3.out.2
        have hpo := HH.out.2.1.ok j p (by omega) hp
        obtain ⟨pd, hpd⟩ : ∃ pd, p.day = pd := ⟨_, rfl⟩
        obtain ⟨pb, hpb⟩ : ∃ pb, p.bal = pb := ⟨_, rfl⟩
        have H4 := Lib.hid (And.intro (H3.out.1.trans n4 (U := fun _ => False) (fun _ _ h => h) (fun _ _ h => h)) b4)
        have HPR := Lib.hid (And.intro hprev (And.intro hpo (And.intro hpd (And.intro hpb hj))))
        have y0 : W4.cell? ⟨W3.heap.size, 0, none⟩ = some (.string (bstr p.acct)) := by rw [← hW4]; exact (cell_of_block (heap_alloc_new W3 _)).trans rfl
        have y1 : W4.cell? ⟨W3.heap.size, 1, none⟩ = some (.int .i64 pd) := by rw [← hW4, ← hpd]; exact (cell_of_block (heap_alloc_new W3 _)).trans rfl
        have y3 : W4.cell? ⟨W3.heap.size, 3, none⟩ = some (.int .i64 pb) := by rw [← hW4, ← hpb]; exact (cell_of_block (heap_alloc_new W3 _)).trans rfl
        have d0 := New.cell n4 c0
        have d1 := New.cell n4 c1
        have d2 := New.cell n4 c2
        have d3 := New.cell n4 c3
        have HW4 := Lib.hid hW4
        have HY := Lib.hid (And.intro y0 (And.intro y1 (And.intro y3 (And.intro d0 (And.intro d1 (And.intro d2 d3))))))
        clear hk1 hp hprev hpo hj n4 b4 hW4 hpd hpb y0 y1 y3 d0 d1 d2 d3
        go_upto_region 10 with fail
        rw [HW4.out]
        obtain ⟨y0, y1, y3, d0, d1, d2, d3⟩ := HY.out
        clear c0 c1 c2 c3 p0 p1 p2 p3
        by_cases hpl : p.acct < r.acct
        · have hne0 : ¬ p.acct = r.acct := fun e => List.lt_irrefl _ (e ▸ hpl)
          have hb1 : Op.bytesLess (bstr p.acct).toList (bstr r.acct).toList = true := by rw [less_b]; exact decide_eq_true hpl
          have hb2 : ((bstr p.acct).toList == (bstr r.acct).toList) = false := by rw [bstr_beq]; exact decide_eq_false hne0
          have hord : (∀ q, prevOf rs k = some q → q.acct < r.acct ∨ (q.acct = r.acct ∧ q.day < r.day)) ∧ wasOf (prevOf rs k) r = 0 ∧ amtD 0 := ⟨fun q hq => (by rw [HPR.out.1] at hq; cases hq; exact .inl hpl), (by rw [HPR.out.1]; exact if_neg hne0), amtD_zero⟩
          have HO := Lib.hid hord
          clear hpl hord hne0
          go_wp2_with fail
          clear hb1 hb2
          have hAdd := AddG_calls W4 0 r.chg HO.out.2.2 HA.out.2.1
          by_cases hab : amtD (0 + r.chg)
          case neg =>
            rw [addM_bad hab] at hAdd
            have HB := Lib.hid (HH.out.2.2.2.2.2.2.2.1 (fun h => hab (by have h1 := h.2.2.2.2.2.2; rw [HO.out.2.1] at h1; rw [h1]; exact HA.out.2.2)))
            clear hab
            go_wp2_with fail
            refine hAdd.mono ?_
            rintro e w3 ⟨rfl, rfl⟩
            clear hAdd
            go_wp2_with fail
            go_ret2
            exact HB.out _ H4.out.1
          rw [addM_ok hab] at hAdd
          obtain ⟨sm, hsm⟩ : ∃ sm, 0 + r.chg = sm := ⟨_, rfl⟩
          rw [hsm] at hAdd
          by_cases heq : sm = r.bal
          case neg =>
            have hne : (sm != r.bal) = true := by simpa using heq
            have HB := Lib.hid (HH.out.2.2.2.2.2.2.2.1 (fun h => heq (by have h1 := h.2.2.2.2.2.2; rw [HO.out.2.1, hsm] at h1; exact h1)))
            clear hab hsm heq
            go_wp2_with fail
            refine hAdd.mono ?_
            rintro e w3 ⟨rfl, rfl⟩
            clear hAdd
            go_wp2_with fail
            go_ret2
            exact HB.out _ H4.out.1
          have hne : (sm != r.bal) = false := by simpa using heq
          have hokr : okR (prevOf rs k) r := ⟨HGD.out.1, HGD.out.2, HA.out.1, HA.out.2.1, HA.out.2.2, HO.out.1, by rw [HO.out.2.1, hsm, heq]⟩
          have hV4 := HH.out.2.2.2.1.new H4.out.1
          have HK := Lib.hid (And.intro hokr hV4)
          clear hab hsm heq hokr
          go_wp2_with fail
          refine hAdd.mono ?_
          rintro e w3 ⟨rfl, rfl⟩
          clear hAdd
          go_wp2_with fail
          clear d0 d1 d2 d3 y0 y1 y3 hne
          obtain ⟨X, hX⟩ : ∃ X, (ms.at_ r.acct).A = X := ⟨_, rfl⟩
          obtain ⟨cx, hcx⟩ : ∃ cx, (ms.at_ r.acct).c = cx := ⟨_, rfl⟩
          obtain ⟨lx, hlx⟩ : ∃ lx, (days (ofF (rs.take k) r.acct)).length = lx := ⟨_, rfl⟩
          have hlxb : lx ≤ k := by rw [← hlx]; exact hV4.len_at r.acct
          have hown := hV4.rd r.acct
          rw [hX, hcx, hlx] at hown
          have hfact : ∀ V : World, V.heap[v]? = W4.heap[v]? → V.heap[m]? = W4.heap[m]? → V.heap[wr.heap.size]? = W4.heap[wr.heap.size]? → V.cell? ⟨v, 0, none⟩ = some (.map (some m)) ∧ V.cell? ⟨wr.heap.size, 0, none⟩ = some (.string (bstr r.acct)) ∧ V.cell? ⟨wr.heap.size, 1, none⟩ = some (.int .i64 r.day) ∧ V.cell? ⟨wr.heap.size, 2, none⟩ = some (.int .i64 r.chg) ∧ V.cell? ⟨wr.heap.size, 3, none⟩ = some (.int .i64 r.bal) ∧ (Instr.lookup 92 (.map (some m)) (.string (bstr r.acct)) false).run Tryd.prog V = .ok (.slice X lx cx) V := fun V h1 h2 h3 => by
            have hb := h3.trans H4.out.2
            have hl := run_look (P := Tryd.prog) Tryd.underlying92 Tryd.underlying9 (z := .slice none 0 0) (w := V) (by have := Tryd.zeroValue98; simp [this]) (hV4.map.map.keep h2) r.acct false
            rw [if_neg (by decide), Ms.at_prs] at hl
            unfold Sl.val at hl
            rw [hV4.shows, hX, hcx, hlx] at hl
            exact ⟨(cell_of_block (h1.trans hV4.blk)).trans rfl, (cell_of_block hb).trans rfl, (cell_of_block hb).trans rfl, (cell_of_block hb).trans rfl, (cell_of_block hb).trans rfl, hl⟩
          have hXb : ∀ b, Bk X b → b ∈ blks ms.sls := fun b hb => Ms.at_bk (ms := ms) (n := r.acct) (by rw [hX]; exact hb)
          have hwl : wr.heap.size < W4.heap.size := (Array.getElem?_eq_some_iff.1 H4.out.2).1
          have hXv : ¬ Bk X v := by
            intro hb
            have h2 := hV4.blk
            rcases hown.2 with ⟨e, _⟩ | ⟨g, cur, e, hg, _⟩
            · rw [e] at hb
              exact absurd hb Bk.none_
            · rw [e] at hb
              have e2 : g = v := Bk.some_.1 hb
              rw [e2, h2] at hg
              cases hg
          have hXn : ¬ Bk X v ∧ ¬ Bk X m ∧ ¬ Bk X wr.heap.size := ⟨hXv, fun hb => hV4.map.not_own (hXb _ hb), fun hb => by have := HH.out.2.2.2.1.map.blk_lt _ (hXb _ hb); omega⟩
          clear hXv
          obtain ⟨hlt1, hlt2, hlt3⟩ := hV4.lt
          have HL := Lib.hid (And.intro hown (And.intro hX (And.intro hcx (And.intro hlx (And.intro hXb (And.intro hXn (And.intro hlt1 (And.intro hlt2 hwl))))))))
          have HF := Lib.hid hfact
          clear hV4 hown hX hcx hlx hfact hXb hXn hlt1 hlt2 hlt3 hwl
          refine wp_region_line (fun w' => w'.cell? ⟨v, 0, none⟩ = some (.map (some m)) ∧ w'.cell? ⟨wr.heap.size, 0, none⟩ = some (.string (bstr r.acct)) ∧ w'.cell? ⟨wr.heap.size, 1, none⟩ = some (.int .i64 r.day) ∧ w'.cell? ⟨wr.heap.size, 2, none⟩ = some (.int .i64 r.chg) ∧ w'.cell? ⟨wr.heap.size, 3, none⟩ = some (.int .i64 r.bal) ∧ (Instr.lookup 92 (.map (some m)) (.string (bstr r.acct)) false).run Tryd.prog w' = .ok (.slice X lx cx) w') (pl := [(0, true), (1, true), (2, true), (3, true), (4, true), (5, true), (6, true), (7, true), (8, true), (9, true), (10, true), (11, true), (12, true), (13, true), (14, true), (15, true), (16, true), (17, true), (18, true), (19, true), (20, true), (21, false), (22, false), (23, false)]) hmo (by kernel_rfl) (HF.out _ rfl rfl rfl) ?_
          iterate 21 (refine line_get rfl rfl (fun K hK => ?_); apply Exists.intro; refine ⟨fun w hS => ?_, ?_⟩; (first | (have hS' := hS rfl; go_simp; with_reducible rfl) | (go_simp; with_reducible rfl)); (go_simp; refine hK _ ?_; clear hK K))
          (refine line_do rfl rfl (fun K hK => ?_); go_simp)
          have nA : New W4 (W4.drew.alloc (.cells #[.int .i64 r.day, .int .i64 r.chg, .int .i64 r.bal] 107)) := (Kp.drew _ _).trans (Kp.alloc _ _ _) (fun _ _ h => h) (fun _ _ h => h)
          refine hK _ _ (fun _ => HF.out _ (nA.block _ HL.out.2.2.2.2.2.2.1 id) (nA.block _ HL.out.2.2.2.2.2.2.2.1 id) (nA.block _ HL.out.2.2.2.2.2.2.2.2 id)) ?_
          clear hK K
          refine line_do rfl rfl (fun K hK => ?_)
          refine wp_append_src _ (.tmp 106) (.tmp 115) 98 98 rfl 107 _ 3 24 Tryd.underlying98 Tryd.info_sums rfl X cx lx ((days (ofF (rs.take k) r.acct)).flatMap dcells) rfl (HL.out.1.new nA) _ rfl 1 _ (Src.ofNew W4.drew Tryd.underlying98 #[.int .i64 r.day, .int .i64 r.chg, .int .i64 r.bal] 107 3 1 1 rfl (by simp [Value.oneCell'])) (by omega) (by omega) ?_
          intro A5 c5 w5 h51 h52 h53
          have k5 : Kp (Bk X) W4 w5 := nA.trans h52 (fun _ _ (h : False) => h.elim) (fun _ _ h => h)
          refine hK _ _ (fun _ => HF.out _ (k5.block _ HL.out.2.2.2.2.2.2.1 HL.out.2.2.2.2.2.1.1) (k5.block _ HL.out.2.2.2.2.2.2.2.1 HL.out.2.2.2.2.2.1.2.1) (k5.block _ HL.out.2.2.2.2.2.2.2.2 HL.out.2.2.2.2.2.1.2.2)) ?_
          clear hK K
          refine line_do rfl rfl (fun K hK => ?_)
          refine wp_mapput 92 (.tmp 97) (.tmp 99) (.tmp 116) rfl 9 98 Tryd.underlying92 Tryd.underlying9 m ms.prs rfl (HK.out.2.map.map.keep (k5.block _ HL.out.2.2.2.2.2.2.2.1 HL.out.2.2.2.2.2.1.2.1)) r.acct rfl (.slice A5 (lx + 1) c5) rfl ?_
          intro w6 m6 k6
          have HS := Lib.hid (And.intro h51 (And.intro h53 (And.intro k5 (And.intro m6 k6))))
          clear h51 h52 h53 k5 m6 k6 nA
          refine hK _ _ (no_need (by kernel_rfl)) ?_
          clear hK K
          refine line_nil ?_
          go_wp2_with fail
          have hl1 : (ms.at_ r.acct).l = days (ofF (rs.take k) r.acct) := HK.out.2.shows r.acct
          have hwsz : w.heap.size ≤ W4.heap.size := Nat.le_trans HH.out.2.2.1.size H4.out.1.size
          have hA5 : ∀ b, Bk A5 b → Bk (ms.at_ r.acct).A b ∨ W4.heap.size ≤ b := fun b hb => by
            rw [HL.out.2.1]
            refine (HS.out.2.1 b hb).imp id fun e => ?_
            simp at e
            omega
          have hA5m : ¬ Bk A5 m := fun hb => by
            rcases HS.out.2.1 _ hb with h | h
            · exact HL.out.2.2.2.2.2.1.2.1 h
            · have := HL.out.2.2.2.2.2.2.2.1
              simp at h
              omega
          have hnm : m ∉ blks ms.sls := HK.out.2.map.not_own
          have hk56 : ∀ b, b < W4.heap.size → b ≠ m → ¬ Bk X b → w6.heap[b]? = W4.heap[b]? := fun b h1 h2 h3 => (HS.out.2.2.2.2.block b (Nat.lt_of_lt_of_le h1 HS.out.2.2.1.size) h2).trans (HS.out.2.2.1.block b h1 h3)
          have hset : MapS w6 m 107 3 dcells (ms.set r.acct ⟨A5, c5, (ms.at_ r.acct).l ++ [(r.day, r.chg, r.bal)]⟩) := by
            refine HK.out.2.map.set r.acct ⟨A5, c5, (ms.at_ r.acct).l ++ [(r.day, r.chg, r.bal)]⟩ ?_ ?_ ?_ ?_
            · have := HS.out.2.2.2.1
              unfold Sl.val
              simp only [List.length_append, List.length_cons, List.length_nil, hl1, HL.out.2.2.2.1]
              exact this
            · unfold OwnS
              simp only [List.length_append, List.length_cons, List.length_nil, List.flatMap_append, hl1, HL.out.2.2.2.1]
              exact Own.kp HS.out.1 HS.out.2.2.2.2 fun b hb e => hA5m (e ▸ hb)
            · intro b hb
              refine (hA5 b hb).imp id fun h hm => ?_
              have := HK.out.2.map.blk_lt b hm
              omega
            · intro y hy hne b hb
              have hbm : b ∈ blks ms.sls := mem_blks.2 ⟨y.2, List.mem_map_of_mem (f := (·.2)) hy, hb⟩
              exact hk56 b (HK.out.2.map.blk_lt b hbm) (fun e => hnm (e ▸ hbm)) fun hx => HK.out.2.map.other hy hne (by rw [HL.out.2.1]; exact hx) hb
          have hnew6 : New w w6 := ((HH.out.2.2.1.trans H4.out.1 (U := fun _ => False) (fun _ _ h => h) (fun _ _ h => h)).trans HS.out.2.2.1 (U := fun _ => False) (fun _ _ h => h) (fun b hb h => by have := HK.out.2.foot b (.inr (.inr (HL.out.2.2.2.2.1 b h))); omega)).trans HS.out.2.2.2.2 (fun _ _ h => h) (fun b hb e => by have := HK.out.2.foot m (.inr (.inl rfl)); omega)
          refine ⟨⟨k + 1, by go_num, by omega, Lib.hid ⟨HH.out.2.1.step HH.out.1 HK.out.1, hnew6, _, from_step HP.out.2.2 (HH.out.2.1.step HH.out.1 HK.out.1) HH.out.2.1 HH.out.1 HK.out.2.shows rfl ?_ hset (fun b hb => ?_) HK.out.2.tot HK.out.2.len HK.out.2.map.nodup⟩⟩, by simp [intOf]; omega⟩
          · exact (hk56 v HL.out.2.2.2.2.2.2.1 HI0.out.2 HL.out.2.2.2.2.2.1.1).trans HK.out.2.blk
          · rcases hb with h | h | h
            · exact HK.out.2.foot b (.inl h)
            · exact HK.out.2.foot b (.inr (.inl h))
            · obtain ⟨z, hz, hB⟩ := mem_blks.1 h
              obtain ⟨y, hy, rfl⟩ := List.mem_map.1 hz
              rcases Ms.mem_set hy with ⟨h1, _⟩ | rfl
              · exact HK.out.2.foot b (.inr (.inr (mem_blks.2 ⟨y.2, List.mem_map_of_mem (f := (·.2)) h1, hB⟩)))
              · rcases hA5 b hB with h | h
                · exact HK.out.2.foot b (.inr (.inr (Ms.at_bk h)))
                · omega
        · have hb1 : Op.bytesLess (bstr p.acct).toList (bstr r.acct).toList = false := by rw [less_b]; exact decide_eq_false hpl
          by_cases hpe : p.acct = r.acct
          · have hb2 : ((bstr p.acct).toList == (bstr r.acct).toList) = true := by rw [bstr_beq]; exact decide_eq_true hpe
            by_cases hpd : pd < r.day
            · have hb3 : ¬ r.day ≤ pd := by omega
              have hpb := HPR.out.2.2.2.1
              have hord : (∀ q, prevOf rs k = some q → q.acct < r.acct ∨ (q.acct = r.acct ∧ q.day < r.day)) ∧ wasOf (prevOf rs k) r = pb ∧ amtD pb := ⟨fun q hq => (by rw [HPR.out.1] at hq; cases hq; exact .inr ⟨hpe, HPR.out.2.2.1.symm ▸ hpd⟩), (by rw [HPR.out.1]; exact (if_pos hpe).trans hpb), hpb ▸ HPR.out.2.1.2.2.2.2.1⟩
              have HO := Lib.hid hord
              clear hpl hord hpe hpb
              go_wp2_with fail
              clear hb1 hb2
              have hAdd := AddG_calls W4 pb r.chg HO.out.2.2 HA.out.2.1
              by_cases hab : amtD (pb + r.chg)
              case neg =>
                rw [addM_bad hab] at hAdd
                have HB := Lib.hid (HH.out.2.2.2.2.2.2.2.1 (fun h => hab (by have h1 := h.2.2.2.2.2.2; rw [HO.out.2.1] at h1; rw [h1]; exact HA.out.2.2)))
                clear hab
                go_wp2_with fail
                refine hAdd.mono ?_
                rintro e w3 ⟨rfl, rfl⟩
                clear hAdd
                go_wp2_with fail
                go_ret2
                exact HB.out _ H4.out.1
              rw [addM_ok hab] at hAdd
              obtain ⟨sm, hsm⟩ : ∃ sm, pb + r.chg = sm := ⟨_, rfl⟩
              rw [hsm] at hAdd
              by_cases heq : sm = r.bal
              case neg =>
                have hne : (sm != r.bal) = true := by simpa using heq
                have HB := Lib.hid (HH.out.2.2.2.2.2.2.2.1 (fun h => heq (by have h1 := h.2.2.2.2.2.2; rw [HO.out.2.1, hsm] at h1; exact h1)))
                clear hab hsm heq
                go_wp2_with fail
                refine hAdd.mono ?_
                rintro e w3 ⟨rfl, rfl⟩
                clear hAdd
                go_wp2_with fail
                go_ret2
                exact HB.out _ H4.out.1
              have hne : (sm != r.bal) = false := by simpa using heq
              have hokr : okR (prevOf rs k) r := ⟨HGD.out.1, HGD.out.2, HA.out.1, HA.out.2.1, HA.out.2.2, HO.out.1, by rw [HO.out.2.1, hsm, heq]⟩
              have hV4 := HH.out.2.2.2.1.new H4.out.1
              have HK := Lib.hid (And.intro hokr hV4)
              clear hab hsm heq hokr
              go_wp2_with fail
              refine hAdd.mono ?_
              rintro e w3 ⟨rfl, rfl⟩
              clear hAdd
              go_wp2_with fail
              clear d0 d1 d2 d3 y0 y1 y3 hne
              obtain ⟨X, hX⟩ : ∃ X, (ms.at_ r.acct).A = X := ⟨_, rfl⟩
              obtain ⟨cx, hcx⟩ : ∃ cx, (ms.at_ r.acct).c = cx := ⟨_, rfl⟩
              obtain ⟨lx, hlx⟩ : ∃ lx, (days (ofF (rs.take k) r.acct)).length = lx := ⟨_, rfl⟩
              have hlxb : lx ≤ k := by rw [← hlx]; exact hV4.len_at r.acct
              have hown := hV4.rd r.acct
              rw [hX, hcx, hlx] at hown
              have hfact : ∀ V : World, V.heap[v]? = W4.heap[v]? → V.heap[m]? = W4.heap[m]? → V.heap[wr.heap.size]? = W4.heap[wr.heap.size]? → V.cell? ⟨v, 0, none⟩ = some (.map (some m)) ∧ V.cell? ⟨wr.heap.size, 0, none⟩ = some (.string (bstr r.acct)) ∧ V.cell? ⟨wr.heap.size, 1, none⟩ = some (.int .i64 r.day) ∧ V.cell? ⟨wr.heap.size, 2, none⟩ = some (.int .i64 r.chg) ∧ V.cell? ⟨wr.heap.size, 3, none⟩ = some (.int .i64 r.bal) ∧ (Instr.lookup 92 (.map (some m)) (.string (bstr r.acct)) false).run Tryd.prog V = .ok (.slice X lx cx) V := fun V h1 h2 h3 => by
                have hb := h3.trans H4.out.2
                have hl := run_look (P := Tryd.prog) Tryd.underlying92 Tryd.underlying9 (z := .slice none 0 0) (w := V) (by have := Tryd.zeroValue98; simp [this]) (hV4.map.map.keep h2) r.acct false
                rw [if_neg (by decide), Ms.at_prs] at hl
                unfold Sl.val at hl
                rw [hV4.shows, hX, hcx, hlx] at hl
                exact ⟨(cell_of_block (h1.trans hV4.blk)).trans rfl, (cell_of_block hb).trans rfl, (cell_of_block hb).trans rfl, (cell_of_block hb).trans rfl, (cell_of_block hb).trans rfl, hl⟩
              have hXb : ∀ b, Bk X b → b ∈ blks ms.sls := fun b hb => Ms.at_bk (ms := ms) (n := r.acct) (by rw [hX]; exact hb)
              have hwl : wr.heap.size < W4.heap.size := (Array.getElem?_eq_some_iff.1 H4.out.2).1
              have hXv : ¬ Bk X v := by
                intro hb
                have h2 := hV4.blk
                rcases hown.2 with ⟨e, _⟩ | ⟨g, cur, e, hg, _⟩
                · rw [e] at hb
                  exact absurd hb Bk.none_
                · rw [e] at hb
                  have e2 : g = v := Bk.some_.1 hb
                  rw [e2, h2] at hg
                  cases hg
              have hXn : ¬ Bk X v ∧ ¬ Bk X m ∧ ¬ Bk X wr.heap.size := ⟨hXv, fun hb => hV4.map.not_own (hXb _ hb), fun hb => by have := HH.out.2.2.2.1.map.blk_lt _ (hXb _ hb); omega⟩
              clear hXv
              obtain ⟨hlt1, hlt2, hlt3⟩ := hV4.lt
              have HL := Lib.hid (And.intro hown (And.intro hX (And.intro hcx (And.intro hlx (And.intro hXb (And.intro hXn (And.intro hlt1 (And.intro hlt2 hwl))))))))
              have HF := Lib.hid hfact
              clear hV4 hown hX hcx hlx hfact hXb hXn hlt1 hlt2 hlt3 hwl
              refine wp_region_line (fun w' => w'.cell? ⟨v, 0, none⟩ = some (.map (some m)) ∧ w'.cell? ⟨wr.heap.size, 0, none⟩ = some (.string (bstr r.acct)) ∧ w'.cell? ⟨wr.heap.size, 1, none⟩ = some (.int .i64 r.day) ∧ w'.cell? ⟨wr.heap.size, 2, none⟩ = some (.int .i64 r.chg) ∧ w'.cell? ⟨wr.heap.size, 3, none⟩ = some (.int .i64 r.bal) ∧ (Instr.lookup 92 (.map (some m)) (.string (bstr r.acct)) false).run Tryd.prog w' = .ok (.slice X lx cx) w') (pl := [(0, true), (1, true), (2, true), (3, true), (4, true), (5, true), (6, true), (7, true), (8, true), (9, true), (10, true), (11, true), (12, true), (13, true), (14, true), (15, true), (16, true), (17, true), (18, true), (19, true), (20, true), (21, false), (22, false), (23, false)]) hmo (by kernel_rfl) (HF.out _ rfl rfl rfl) ?_
              iterate 21 (refine line_get rfl rfl (fun K hK => ?_); apply Exists.intro; refine ⟨fun w hS => ?_, ?_⟩; (first | (have hS' := hS rfl; go_simp; with_reducible rfl) | (go_simp; with_reducible rfl)); (go_simp; refine hK _ ?_; clear hK K))
              (refine line_do rfl rfl (fun K hK => ?_); go_simp)
              have nA : New W4 (W4.drew.alloc (.cells #[.int .i64 r.day, .int .i64 r.chg, .int .i64 r.bal] 107)) := (Kp.drew _ _).trans (Kp.alloc _ _ _) (fun _ _ h => h) (fun _ _ h => h)
              refine hK _ _ (fun _ => HF.out _ (nA.block _ HL.out.2.2.2.2.2.2.1 id) (nA.block _ HL.out.2.2.2.2.2.2.2.1 id) (nA.block _ HL.out.2.2.2.2.2.2.2.2 id)) ?_
              clear hK K
              refine line_do rfl rfl (fun K hK => ?_)
              refine wp_append_src _ (.tmp 106) (.tmp 115) 98 98 rfl 107 _ 3 24 Tryd.underlying98 Tryd.info_sums rfl X cx lx ((days (ofF (rs.take k) r.acct)).flatMap dcells) rfl (HL.out.1.new nA) _ rfl 1 _ (Src.ofNew W4.drew Tryd.underlying98 #[.int .i64 r.day, .int .i64 r.chg, .int .i64 r.bal] 107 3 1 1 rfl (by simp [Value.oneCell'])) (by omega) (by omega) ?_
              intro A5 c5 w5 h51 h52 h53
              have k5 : Kp (Bk X) W4 w5 := nA.trans h52 (fun _ _ (h : False) => h.elim) (fun _ _ h => h)
              refine hK _ _ (fun _ => HF.out _ (k5.block _ HL.out.2.2.2.2.2.2.1 HL.out.2.2.2.2.2.1.1) (k5.block _ HL.out.2.2.2.2.2.2.2.1 HL.out.2.2.2.2.2.1.2.1) (k5.block _ HL.out.2.2.2.2.2.2.2.2 HL.out.2.2.2.2.2.1.2.2)) ?_
              clear hK K
              refine line_do rfl rfl (fun K hK => ?_)
              refine wp_mapput 92 (.tmp 97) (.tmp 99) (.tmp 116) rfl 9 98 Tryd.underlying92 Tryd.underlying9 m ms.prs rfl (HK.out.2.map.map.keep (k5.block _ HL.out.2.2.2.2.2.2.2.1 HL.out.2.2.2.2.2.1.2.1)) r.acct rfl (.slice A5 (lx + 1) c5) rfl ?_
              intro w6 m6 k6
              have HS := Lib.hid (And.intro h51 (And.intro h53 (And.intro k5 (And.intro m6 k6))))
              clear h51 h52 h53 k5 m6 k6 nA
              refine hK _ _ (no_need (by kernel_rfl)) ?_
              clear hK K
              refine line_nil ?_
              go_wp2_with fail
              have hl1 : (ms.at_ r.acct).l = days (ofF (rs.take k) r.acct) := HK.out.2.shows r.acct
              have hwsz : w.heap.size ≤ W4.heap.size := Nat.le_trans HH.out.2.2.1.size H4.out.1.size
              have hA5 : ∀ b, Bk A5 b → Bk (ms.at_ r.acct).A b ∨ W4.heap.size ≤ b := fun b hb => by
                rw [HL.out.2.1]
                refine (HS.out.2.1 b hb).imp id fun e => ?_
                simp at e
                omega
              have hA5m : ¬ Bk A5 m := fun hb => by
                rcases HS.out.2.1 _ hb with h | h
                · exact HL.out.2.2.2.2.2.1.2.1 h
                · have := HL.out.2.2.2.2.2.2.2.1
                  simp at h
                  omega
              have hnm : m ∉ blks ms.sls := HK.out.2.map.not_own
              have hk56 : ∀ b, b < W4.heap.size → b ≠ m → ¬ Bk X b → w6.heap[b]? = W4.heap[b]? := fun b h1 h2 h3 => (HS.out.2.2.2.2.block b (Nat.lt_of_lt_of_le h1 HS.out.2.2.1.size) h2).trans (HS.out.2.2.1.block b h1 h3)
              have hset : MapS w6 m 107 3 dcells (ms.set r.acct ⟨A5, c5, (ms.at_ r.acct).l ++ [(r.day, r.chg, r.bal)]⟩) := by
                refine HK.out.2.map.set r.acct ⟨A5, c5, (ms.at_ r.acct).l ++ [(r.day, r.chg, r.bal)]⟩ ?_ ?_ ?_ ?_
                · have := HS.out.2.2.2.1
                  unfold Sl.val
                  simp only [List.length_append, List.length_cons, List.length_nil, hl1, HL.out.2.2.2.1]
                  exact this
                · unfold OwnS
                  simp only [List.length_append, List.length_cons, List.length_nil, List.flatMap_append, hl1, HL.out.2.2.2.1]
                  exact Own.kp HS.out.1 HS.out.2.2.2.2 fun b hb e => hA5m (e ▸ hb)
                · intro b hb
                  refine (hA5 b hb).imp id fun h hm => ?_
                  have := HK.out.2.map.blk_lt b hm
                  omega
                · intro y hy hne b hb
                  have hbm : b ∈ blks ms.sls := mem_blks.2 ⟨y.2, List.mem_map_of_mem (f := (·.2)) hy, hb⟩
                  exact hk56 b (HK.out.2.map.blk_lt b hbm) (fun e => hnm (e ▸ hbm)) fun hx => HK.out.2.map.other hy hne (by rw [HL.out.2.1]; exact hx) hb
              have hnew6 : New w w6 := ((HH.out.2.2.1.trans H4.out.1 (U := fun _ => False) (fun _ _ h => h) (fun _ _ h => h)).trans HS.out.2.2.1 (U := fun _ => False) (fun _ _ h => h) (fun b hb h => by have := HK.out.2.foot b (.inr (.inr (HL.out.2.2.2.2.1 b h))); omega)).trans HS.out.2.2.2.2 (fun _ _ h => h) (fun b hb e => by have := HK.out.2.foot m (.inr (.inl rfl)); omega)
              refine ⟨⟨k + 1, by go_num, by omega, Lib.hid ⟨HH.out.2.1.step HH.out.1 HK.out.1, hnew6, _, from_step HP.out.2.2 (HH.out.2.1.step HH.out.1 HK.out.1) HH.out.2.1 HH.out.1 HK.out.2.shows rfl ?_ hset (fun b hb => ?_) HK.out.2.tot HK.out.2.len HK.out.2.map.nodup⟩⟩, by simp [intOf]; omega⟩
              · exact (hk56 v HL.out.2.2.2.2.2.2.1 HI0.out.2 HL.out.2.2.2.2.2.1.1).trans HK.out.2.blk
              · rcases hb with h | h | h
                · exact HK.out.2.foot b (.inl h)
                · exact HK.out.2.foot b (.inr (.inl h))
                · obtain ⟨z, hz, hB⟩ := mem_blks.1 h
                  obtain ⟨y, hy, rfl⟩ := List.mem_map.1 hz
                  rcases Ms.mem_set hy with ⟨h1, _⟩ | rfl
                  · exact HK.out.2.foot b (.inr (.inr (mem_blks.2 ⟨y.2, List.mem_map_of_mem (f := (·.2)) h1, hB⟩)))
                  · rcases hA5 b hB with h | h
                    · exact HK.out.2.foot b (.inr (.inr (Ms.at_bk h)))
                    · omega
            · have hb3 : r.day ≤ pd := by omega
              have HB := Lib.hid (HH.out.2.2.2.2.2.2.2.1 (fun h => by
                rcases h.2.2.2.2.2.1 p HPR.out.1 with h1 | ⟨_, h1⟩
                · exact hpl h1
                · exact hpd (HPR.out.2.2.1 ▸ h1)))
              clear hpl hpe hpd
              go_wp2_with fail
              go_ret2
              exact HB.out _ H4.out.1
          · have hb2 : ((bstr p.acct).toList == (bstr r.acct).toList) = false := by rw [bstr_beq]; exact decide_eq_false hpe
            have HB := Lib.hid (HH.out.2.2.2.2.2.2.2.1 (fun h => by
              rcases h.2.2.2.2.2.1 p HPR.out.1 with h1 | ⟨h1, _⟩
              · exact hpl h1
              · exact hpe h1))
            clear hpl hpe
            go_wp2_with fail
            go_ret2
            exact HB.out _ H4.out.1
    · have hkn : k = n := by omega
      have hki : ¬ (k : Int) < (n : Int) := by omega
      obtain ⟨hFI, hnw, ms, hV⟩ := HI.out
      have htk : rs.take k = rs := List.take_of_length_le (by have := HP.out.2.1; omega)
      rw [htk] at hV
      have HH := Lib.hid (And.intro hFI (And.intro hnw (And.intro hV hkn)))
      clear hFI hnw hV htk
      go_wp2_with fail
      go_ret2
      refine .inl ⟨fun i q hq => HH.out.1.ok i q (by have h1 := HP.out.2.1; have h2 := HH.out.2.2.2; have := (List.getElem?_eq_some_iff.1 hq).1; omega) hq, v, _, rfl, ⟨m, ms, ?_⟩, HH.out.2.1, fun _ h => h⟩
      have h1 := HH.out.2.2.1
      rw [HH.out.2.2.2, HP.out.2.1] at h1
      exact h1
end Go.Proofs.YtejmndfdmikfaaaDoor.Kit
