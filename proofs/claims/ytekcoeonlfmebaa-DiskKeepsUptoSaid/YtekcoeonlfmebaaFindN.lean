/- The book of the law DiskKeeps: find, dropped. -/
import Derived.Test.YtekcoeonlfmebaaNotes
import Derived.Test.YtekcoeonlfmebaaRename
namespace Go.Proofs.Ytekcoeonlfmebaa.Kit
open Go Go.RowKit

def findZ (l : List Fl) (n : Nm) : Int := match l.findIdx? (fun f => f.name == n) with
  | some i => (i : Int)
  | none => -1
theorem findZ_at {ys : List FV} {n : Nm} {k : Nat} {y : FV} (hy : ys[k]? = some y) (hq : y.f.name = n) (hp : ∀ j z, j < k → ys[j]? = some z → z.f.name ≠ n) : findZ (ys.map FV.f) n = (k : Int) := by
  have hk := (List.getElem?_eq_some_iff.1 hy).1
  have : (ys.map FV.f).findIdx? (fun f => f.name == n) = some k := by
    rw [List.findIdx?_eq_some_iff_getElem]
    refine ⟨by simpa using hk, ?_, fun j hj => ?_⟩
    · rw [List.getElem_map, (List.getElem?_eq_some_iff.1 hy).2, hq]
      simp
    · have hj' : j < ys.length := by omega
      have := hp j ys[j] hj (List.getElem?_eq_getElem hj')
      simpa using this
  unfold findZ
  rw [this]
theorem findZ_no {ys : List FV} {n : Nm} (hp : ∀ j z, j < ys.length → ys[j]? = some z → z.f.name ≠ n) : findZ (ys.map FV.f) n = -1 := by
  have : (ys.map FV.f).findIdx? (fun f => f.name == n) = none := by
    rw [List.findIdx?_eq_none_iff]
    intro f hf
    obtain ⟨z, hz, rfl⟩ := List.mem_map.1 hf
    obtain ⟨j, hj⟩ := List.mem_iff_getElem?.1 hz
    have := hp j z (List.getElem?_eq_some_iff.1 hj).1 hj
    simpa using this
  unfold findZ
  rw [this]
/-- Where the file of a name stands. -/
theorem findZ_some {ys : List FV} {n : Nm} {g : Fl} (h : (ys.map FV.f).find? (fun f => f.name == n) = some g) : ∃ (i : Nat) (y : FV), ys[i]? = some y ∧ y.f = g ∧ g.name = n ∧ findZ (ys.map FV.f) n = (i : Int) := by
  rw [List.find?_eq_some_iff_getElem] at h
  obtain ⟨hg, i, hi, he, hp⟩ := h
  have hi' : i < ys.length := by simpa using hi
  have hg' : g.name = n := by simpa using hg
  have hy : ys[i].f = g := by simpa using he
  refine ⟨i, ys[i], List.getElem?_eq_getElem hi', hy, hg', findZ_at (List.getElem?_eq_getElem hi') (hy ▸ hg') fun j z hj hz => ?_⟩
  have h1 := hp j hj
  have h2 : ys[j]'(by omega) = z := (List.getElem?_eq_some_iff.1 hz).2
  simp only [List.getElem_map, h2] at h1
  simpa using h1
theorem findZ_none {ys : List FV} {n : Nm} (h : (ys.map FV.f).find? (fun f => f.name == n) = none) : findZ (ys.map FV.f) n = -1 := findZ_no fun j z _ hz => by
  have := List.find?_eq_none.1 h z.f (List.mem_map.2 ⟨z, List.mem_of_getElem? hz, rfl⟩)
  simpa using this

set_option maxRecDepth 100000 in
set_option maxHeartbeats 2000000 in
theorem find_calls (w : World) (A : Option Addr) (c : Nat) (ys : List FV) (n : Nm) (h : OwnN 66 w A c ys) (hl : ys.length ≤ 4611686018427387904) :
    Calls Try.prog 13 #[.slice A ys.length c, .string (bstr n)] w fun e w' => e = .returned (.int .i64 (findZ (ys.map FV.f) n)) ∧ w = w' := by
  have HI := Lib.hid h
  clear h
  go_enter Try.func13, Try.ntmps13
  go_wp2_with fail
  go_loop [5] (fun i => ∃ k : Nat, k ≤ ys.length ∧ i = .int .i64 (k : Int) ∧ Hid (∀ j z, j < k → ys[j]? = some z → z.f.name ≠ n)) (fun i => ys.length - (intOf i).toNat)
  case atStart => exact ⟨0, Nat.zero_le _, rfl, Lib.hid fun j z hj => absurd hj (Nat.not_lt_zero _)⟩
  case round =>
    obtain ⟨k, hk, rfl, HK⟩ := hrel
    have hk0 : (0 : Int) ≤ k := by omega
    by_cases hlt : k < ys.length
    · have hki : (k : Int) < (ys.length : Int) := by omega
      obtain ⟨y, hy⟩ : ∃ y, ys[k]? = some y := ⟨_, List.getElem?_eq_getElem hlt⟩
      obtain ⟨g, rfl, r0, -, -, -⟩ := HI.out.at_ hy
      have HY := Lib.hid hy
      clear hy
      by_cases hq : y.f.name = n
      · have hb : ((bstr y.f.name).toList == (bstr n).toList) = true := by rw [bstr_beq, decide_eq_true hq]
        have HQ := Lib.hid hq
        clear hq
        go_wp2_with fail
        go_ret
        exact ⟨by rw [findZ_at HY.out HQ.out HK.out]; rfl, rfl⟩
      · have hb := bstr_ne hq
        have HQ := Lib.hid hq
        clear hq
        go_wp2_with fail
        exact ⟨⟨k + 1, by omega, by go_num, Lib.hid fun j z hj hz => by
          rcases Nat.lt_or_ge j k with h | h
          · exact HK.out j z h hz
          · obtain rfl : j = k := by omega
            obtain rfl : y = z := Option.some.inj (HY.out.symm.trans hz)
            exact HQ.out⟩, by simp [intOf]; omega⟩
    · obtain rfl : k = ys.length := by omega
      have hkd : decide (ys.length < ys.length) = false := by simp
      go_wp2_with fail
      go_ret
      exact ⟨by rw [findZ_no HK.out]; rfl, rfl⟩

theorem find_calls_n (w : World) (A : Option Addr) (c m : Nat) (ys : List FV) (n : Nm) (hm : m = ys.length) (h : OwnN 66 w A c ys) (hl : ys.length ≤ 4611686018427387904) :
    Calls Try.prog 13 #[.slice A m c, .string (bstr n)] w fun e w' => e = .returned (.int .i64 (findZ (ys.map FV.f) n)) ∧ w = w' := hm ▸ find_calls w A c ys n h hl
theorem take_filter_snoc {p : FV → Bool} {ys : List FV} {k : Nat} {y : FV} (hy : ys[k]? = some y) : (ys.take (k + 1)).filter p = (ys.take k).filter p ++ if p y = true then [y] else [] := by
  rw [List.take_add_one, hy, List.filter_append]
  congr 1
  by_cases h : p y = true
  · simp [h]
  · simp [h]
theorem fblks_sub {zs ys : List FV} (h : zs.Sublist ys) : (fblks zs).Sublist (fblks ys) := by
  unfold fblks
  induction h with
  | slnil => simp
  | cons a _ ih => rw [List.flatMap_cons]; exact ih.trans (List.sublist_append_right _ _)
  | cons_cons a _ ih => rw [List.flatMap_cons, List.flatMap_cons]; exact ih.append_left _
def DroppedPost (w : World) (ys : List FV) (n : Nm) (e : Ending) (w' : World) : Prop :=
  ∃ A' c' zs, zs = ys.filter (fun y => y.f.name != n) ∧ e = .returned (.slice A' zs.length c') ∧ OwnN 66 w' A' c' zs ∧ New w w' ∧ ∀ k, Bk A' k → w.heap.size ≤ k

set_option maxRecDepth 100000 in
set_option maxHeartbeats 2000000 in
theorem dropped_calls (w : World) (A : Option Addr) (c : Nat) (ys : List FV) (n : Nm) (h : OwnN 66 w A c ys) (hl : ys.length ≤ 64) :
    Calls Try.prog 35 #[.slice A ys.length c, .string (bstr n)] w (DroppedPost w ys n) := by
  have HI := Lib.hid h
  clear h
  go_enter Try.func35, Try.ntmps35
  go_wp2_with fail
  go_loopw [5, 6] (fun o i wr => ∃ (k : Nat) (A1 : Option Addr) (c1 : Nat) (zs : List FV), k ≤ ys.length ∧ zs.length ≤ k ∧ i = .int .i64 (k : Int) ∧ o = .slice A1 zs.length c1 ∧ Hid (zs = (ys.take k).filter (fun y => y.f.name != n) ∧ Own wr 66 3 A1 c1 zs.length (FV.flat zs) ∧ New w wr ∧ ∀ j, Bk A1 j → w.heap.size ≤ j)) (fun _ i _ => ys.length - (intOf i).toNat)
  case atStart => exact ⟨0, none, 0, [], Nat.zero_le _, Nat.le_refl _, rfl, rfl, Lib.hid ⟨rfl, Own.nil _ _ _, Kp.refl _ _, fun j h => absurd h Bk.none_⟩⟩
  case round =>
    obtain ⟨k, A1, c1, zs, hk, hzk, rfl, rfl, HK⟩ := hrel
    have hk0 : (0 : Int) ≤ k := by omega
    by_cases hlt : k < ys.length
    · have hki : (k : Int) < (ys.length : Int) := by omega
      obtain ⟨y, hy⟩ : ∃ y, ys[k]? = some y := ⟨_, List.getElem?_eq_getElem hlt⟩
      obtain ⟨g, rfl, r0, r1, r2, -⟩ := (HI.out.kp HK.out.2.2.1 (fun _ _ => id)).at_ hy
      have HY := Lib.hid hy
      clear hy
      by_cases hq : y.f.name = n
      · have hb : ((bstr y.f.name).toList == (bstr n).toList) = true := by rw [bstr_beq, decide_eq_true hq]
        have hb2 : ((bstr y.f.name).toList != (bstr n).toList) = false := by unfold bne; rw [hb]; rfl
        have HQ := Lib.hid hq
        clear hq
        go_wp2_with fail
        exact ⟨⟨k + 1, A1, c1, zs, by omega, by omega, by go_num, rfl, Lib.hid ⟨by rw [take_filter_snoc HY.out, if_neg (by simp [HQ.out]), List.append_nil]; exact HK.out.1, HK.out.2⟩⟩, by simp [intOf]; omega⟩
      · have hb := bstr_ne hq
        have hb2 : ((bstr y.f.name).toList != (bstr n).toList) = true := by unfold bne; rw [hb]; rfl
        have HQ := Lib.hid hq
        clear hq
        go_wp2_with (at_builtin; refine wpList_append_src _ rfl (.tmp 20) (.tmp 25) 27 27 rfl 66 _ 3 48 Try.underlying27 Try.info_note rfl A1 c1 zs.length (FV.flat zs) rfl (HK.out.2.1.new (Kp.alloc _ _ _)) _ rfl 1 _ (Src.ofNew wr Try.underlying27 #[.string (bstr y.f.name), .slice y.A y.f.data.length y.c, .int .i64 (y.f.syn : Int)] 66 3 1 1 rfl (by simp [Value.oneCell'])) (by omega) (by omega) ?_; intro A2 c2 w3 q1 q2 q3; have H3 := Lib.hid (And.intro q1 (And.intro q2 q3)); clear q1 q2 q3)
        have zr := HK.out.2.2.1.size
        have nr : New w w3 := HK.out.2.2.1.trans ((Kp.alloc (Bk A1) wr (.cells #[.string (bstr y.f.name), .slice y.A y.f.data.length y.c, .int .i64 (y.f.syn : Int)] 66)).trans H3.out.2.1 (fun _ _ h => h) (fun _ _ h => h)) (fun _ _ h => h) (fun i hi h => by have := HK.out.2.2.2 i h; omega)
        refine ⟨⟨k + 1, A2, c2, zs ++ [y], by omega, by rw [List.length_append]; simp; omega, by go_num, by rw [List.length_append]; rfl, Lib.hid ⟨?_, ?_, nr, fun j hj => ?_⟩⟩, by simp [intOf]; omega⟩
        · rw [take_filter_snoc HY.out, if_pos (by simp [HQ.out]), ← HK.out.1]
        · rw [FV.flat_snoc, List.length_append]
          exact H3.out.1
        · rcases H3.out.2.2 j hj with h | h
          · exact HK.out.2.2.2 j h
          · rw [h]
            simp
            omega
    · obtain rfl : k = ys.length := by omega
      have hkd : decide (ys.length < ys.length) = false := by simp
      go_wp2_with fail
      go_ret
      have hzs : zs = ys.filter (fun y => y.f.name != n) := by have := HK.out.1; rwa [List.take_length] at this
      have hsub : zs.Sublist ys := hzs ▸ List.filter_sublist
      have ho := HI.out.kp HK.out.2.2.1 (fun _ _ => id)
      refine ⟨A1, c1, zs, hzs, rfl, ⟨HK.out.2.1, fun y hy => ho.2.1 y (hsub.subset hy), List.nodup_append.2 ⟨bks_nodup _, (fblks_sub hsub).nodup (List.nodup_append.1 ho.2.2).2.1, fun a ha b hb e => ?_⟩⟩, HK.out.2.2.1, HK.out.2.2.2⟩
      subst e
      have h1 := HK.out.2.2.2 a (mem_bks.1 ha)
      have h2 := HI.out.lt a (List.mem_append_right _ ((fblks_sub hsub).subset hb))
      omega
end Go.Proofs.Ytekcoeonlfmebaa.Kit
