/- A daily view's State. -/
import Derived.Test.YtejmndfdmikfaaaDoorLook9
namespace Go.Proofs.YtejmndfdmikfaaaDoor.Kit
open Go Go.RowKit

def lenS : Value → Nat
  | .slice _ n _ => n
  | _ => 0
def StatePost9 (w : World) (O : DO) (e : Ending) (w' : World) : Prop :=
  ∃ A c N, CovD N O ∧ e = .returned (.slice A (stateD N O).length c) ∧ Own w' 62 4 A c (stateD N O).length ((stateD N O).flatMap Dr.cells) ∧ New w w' ∧ (∀ k, Bk A k → w.heap.size ≤ k) ∧ (stateD N O).length ≤ 1099511627776
theorem tot_keys {O : DO} {ms : Ms (Int × Int × Int)} (hn : ms.keys.Nodup) (h : ∀ n, (ms.at_ n).l = days (O n)) : (ms.keys.map fun n => (days (O n)).length).sum = ms.tot := by
  unfold Ms.tot Ms.keys
  rw [List.map_map]
  congr 1
  refine List.map_congr_left fun x hx => ?_
  show (days (O x.1)).length = _
  rw [← h x.1, Ms.at_mem hn hx]
def partD (S : List (List UInt8)) (O : DO) (k : Nat) : List Dr := (S.take k).flatMap fun n => (days (O n)).map (drOf n)
theorem part_len (S : List (List UInt8)) (O : DO) (k : Nat) : (partD S O k).length ≤ (S.map fun n => (days (O n)).length).sum := by
  unfold partD
  induction S generalizing k with
  | nil => simp
  | cons n S ih =>
    cases k with
    | zero => simp
    | succ k =>
      rw [List.take_succ_cons, List.flatMap_cons, List.length_append, List.length_map, List.map_cons, List.sum_cons]
      have := ih k
      omega
theorem part_succ {S : List (List UInt8)} {O : DO} {k : Nat} {n : List UInt8} (h : S[k]? = some n) : partD S O (k + 1) = partD S O k ++ (days (O n)).map (drOf n) := by
  unfold partD
  rw [take_get h, List.flatMap_append]
  simp
theorem sum_perm {l m : List Nat} (h : l.Perm m) : l.sum = m.sum := by
  induction h with
  | nil => rfl
  | cons x _ ih => rw [List.sum_cons, List.sum_cons, ih]
  | swap x y l => simp only [List.sum_cons]; omega
  | trans _ _ h1 h2 => exact h1.trans h2
set_option maxRecDepth 100000 in
set_option maxHeartbeats 4000000 in
theorem State9_calls (w : World) (v : Nat) (O : DO) (F : Nat → Prop) (M : Nat) (h : ViewD w v O F M) (hM : M ≤ 1099511627776) :
    Calls Tryd.prog 25 #[.pointer (some ⟨v, 0, none⟩)] w (StatePost9 w O) := by
  obtain ⟨b, ms, hV⟩ := h
  obtain ⟨l, hl⟩ : ∃ l, ms.prs = l := ⟨_, rfl⟩
  have hmap := hV.map.map
  rw [hl] at hmap
  obtain ⟨it, hr, hR⟩ := run_range (P := Tryd.prog) Tryd.underlying92 hmap
  have hbl := hmap.lt
  have hkeys : l.map (·.1) = ms.keys := by rw [← hl]; exact Ms.keys_prs ms
  have hlen : l.length ≤ 1099511627776 := by
    rw [← hl]
    unfold Ms.prs
    rw [List.length_map]
    exact Nat.le_trans hV.len hM
  have c0 : w.cell? ⟨v, 0, none⟩ = some (.map (some b)) := (cell_of_block hV.blk).trans rfl
  have HX := Lib.hid (And.intro hV (And.intro hR (And.intro hmap hkeys)))
  clear hV hR hmap hkeys hl
  go_enter Tryd.func25, Tryd.ntmps25
  go_wp2
  go_loopw [3] (fun v wr => ∃ (A1 : Option Addr) (c1 : Nat) (ss : List (List UInt8)) (todo : List (List UInt8 × Value)), v = .slice A1 ss.length c1 ∧ ss.length ≤ l.length ∧ Hid (Own wr 9 1 A1 c1 ss.length (ss.map sv) ∧ Rng wr b w.heap.size todo ∧ (ss ++ todo.map (·.1)).Perm (l.map (·.1)) ∧ New w wr ∧ (∀ k, Bk A1 k → w.heap.size ≤ k) ∧ w.heap.size < wr.heap.size)) (fun v _ => l.length - lenS v)
  case atStart =>
    exact ⟨none, 0, [], l, rfl, Nat.zero_le _, Lib.hid ⟨Own.nil _ _ _, HX.out.2.1, List.Perm.refl _, Kp.alloc _ _ _, fun k h => absurd h Bk.none_, by simp⟩⟩
  case round =>
    obtain ⟨A1, c1, ss, todo, rfl, hle, HI⟩ := hrel
    have hcells := HI.out.1.is_cells
    have hrb : ¬ Bk A1 w.heap.size ∧ ¬ Bk A1 b := by
      obtain ⟨es, clock, l', seen, c0, q1, q2, q3, _⟩ := HI.out.2.1
      refine ⟨fun h => ?_, fun h => ?_⟩
      · obtain ⟨cs, e, fr, hc⟩ := hcells _ h
        rw [q3] at hc
        cases hc
      · obtain ⟨cs, e, fr, hc⟩ := hcells _ h
        rw [q1] at hc
        cases hc
    rcases run_next (P := Tryd.prog) HI.out.2.1 (by omega) with ⟨h0, hn⟩ | ⟨t1, x, t2, w', hto, hn, hR', hk', hen⟩
    · have hperm : ss.Perm (l.map (·.1)) := by have := HI.out.2.2.1; rw [h0] at this; simpa using this
      have hcov := HX.out.1.cov
      have hnd : ss.Nodup := by rw [HX.out.2.2.2] at hperm; exact hperm.nodup_iff.2 hcov.1
      have hcs : CovD ss O := ⟨hnd, fun n hn => by rw [HX.out.2.2.2] at hperm; exact hperm.mem_iff.2 (hcov.2 n hn)⟩
      have htot : (((sortN ss).map fun n => (days (O n)).length).sum) ≤ M := by
        rw [sum_perm (((sortN_perm ss).map _).trans ((HX.out.2.2.2 ▸ hperm).map _)), tot_keys HX.out.1.map.nodup HX.out.1.shows]
        exact HX.out.1.tot
      have HP := Lib.hid (And.intro hcs htot)
      clear h0 hperm hcells hrb hcov hnd hcs htot
      go_wp2_with fail
      refine (sort_calls wr A1 c1 ss.length ss HI.out.1 rfl (by omega)).mono ?_
      rintro e w2 ⟨rfl, ho, hk⟩
      have hl : (sortN ss).length = ss.length := by simp [sortN]
      have hn2 : New w w2 := HI.out.2.2.2.1.trans hk (fun _ _ h => h) (fun k hk h => by have := HI.out.2.2.2.2.1 k h; omega)
      obtain ⟨S, hS⟩ : ∃ S, sortN ss = S := ⟨_, rfl⟩
      rw [hS] at ho hl
      obtain ⟨N, hN⟩ : ∃ N, ss.length = N := ⟨_, rfl⟩
      rw [hN] at ho hl hle ⊢
      have HS := Lib.hid (And.intro ho (And.intro hn2 (And.intro hl hS)))
      have htot : ∀ k, (partD S O k).length ≤ M := fun k => Nat.le_trans (part_len S O k) (by rw [← hS]; exact HP.out.2)
      have HT := Lib.hid htot
      clear ho hk hn2 hl htot hS hN
      go_wp2_with fail
      go_loopw [5, 25] (fun s i wq => ∃ (k : Nat) (A3 : Option Addr) (c3 : Nat), s = .slice A3 (partD S O k).length c3 ∧ i = .int .i64 (k : Int) ∧ k ≤ N ∧ Hid (Own wq 62 4 A3 c3 (partD S O k).length ((partD S O k).flatMap Dr.cells) ∧ New w2 wq ∧ ∀ j, Bk A3 j → w2.heap.size ≤ j)) (fun _ i _ => N - (intOf i).toNat)
      case atStart => exact ⟨0, none, 0, rfl, rfl, Nat.zero_le _, Lib.hid ⟨Own.nil _ _ _, Kp.refl _ _, fun j h => absurd h Bk.none_⟩⟩
      case round =>
        rename World => Wq
        obtain ⟨k, A3, c3, rfl, rfl, hk, HJ⟩ := hrel
        have hk0 : (0 : Int) ≤ k := by omega
        by_cases hlt : k < N
        · have hki : (k : Int) < (N : Int) := by omega
          obtain ⟨n, hn⟩ : ∃ n, S[k]? = some n := ⟨_, List.getElem?_eq_getElem (by have := HS.out.2.2.1; omega)⟩
          have hos := HS.out.1.new HJ.out.2.1
          obtain ⟨g, hg⟩ := hos.some_ (by omega)
          subst hg
          have hcell : Wq.cell? ⟨g, k, none⟩ = some (.string (bstr n)) := hos.cell (by rw [List.getElem?_map, hn]; rfl)
          have hVq := HX.out.1.new (HS.out.2.1.trans HJ.out.2.1 (fun _ _ h => h) (fun _ _ h => h))
          have d0 : Wq.cell? ⟨v, 0, none⟩ = some (.map (some b)) := (cell_of_block hVq.blk).trans rfl
          have hlook := hVq.look n
          have hrows := rows_calls Wq n (ms.at_ n).A (days (O n)).length (ms.at_ n).c (days (O n)) (hVq.rd n).rdc rfl (by have := hVq.len_at n; omega)
          have hps := part_succ (O := O) hn
          have hpl := HT.out (k + 1)
          rw [hps, List.length_append] at hpl
          obtain ⟨R, hR⟩ : ∃ R, (days (O n)).map (drOf n) = R := ⟨_, rfl⟩
          rw [hR] at hrows hps hpl
          obtain ⟨pl, hpe⟩ : ∃ pl, (partD S O k).length = pl := ⟨_, rfl⟩
          rw [hpe] at hpl ⊢
          have hoq := HJ.out.1
          rw [hpe] at hoq
          have HH := Lib.hid (And.intro hps (And.intro hoq hpe))
          generalize (ms.at_ n).A = An at hlook hrows
          generalize (ms.at_ n).c = cn at hlook hrows
          generalize (days (O n)).length = ln at hlook hrows
          have HW := Lib.hid hrows
          clear hn hos hVq hps hR hpe hoq hrows
          go_wp2_with fail
          refine HW.out.mono ?_
          rintro e w3 ⟨A4, c4, rfl, ho4, hn4, hA4⟩
          have H4 := Lib.hid (And.intro ho4 (And.intro hn4 hA4))
          clear ho4 hn4 hA4
          go_wp2_with (at_builtin; refine wpList_append_src _ rfl (.tmp 29) (.tmp 37) 54 54 rfl 62 _ 4 40 Tryd.underlying54 Tryd.info_dr rfl A3 c3 pl ((partD S O k).flatMap Dr.cells) rfl (HH.out.2.1.new H4.out.2.1) (.slice A4 R.length c4) rfl R.length (R.flatMap Dr.cells) (Src.ofRdC Tryd.underlying54 4 _ _ H4.out.1.rdc (flat_length Dr.len R) (by decide) (Dr.one R)) (by omega) (by omega) ?_; intro A5 c5 w5 h51 h52 h53; have H5 := Lib.hid (And.intro h51 (And.intro h52 h53)); clear h51 h52 h53)
          have hlen5 : (partD S O (k + 1)).length = pl + R.length := by rw [HH.out.1, List.length_append, HH.out.2.2]
          have hk5 : Kp (Bk A3) Wq w5 := H4.out.2.1.trans H5.out.2.1 (fun _ _ (h : False) => h.elim) (fun _ _ h => h)
          refine ⟨⟨k + 1, A5, c5, by rw [hlen5], by go_num, by omega, Lib.hid ⟨?_, HJ.out.2.1.trans hk5 (fun _ _ h => h) (fun j hj h => by have := HJ.out.2.2 j h; omega), fun j hj => ?_⟩⟩, by simp [intOf]; omega⟩
          · rw [hlen5, HH.out.1, List.flatMap_append]
            exact H5.out.1
          · rcases H5.out.2.2 j hj with h | h
            · exact HJ.out.2.2 j h
            · have h1 := HJ.out.2.1.size
              have h2 := H4.out.2.1.size
              omega
        · obtain rfl : k = N := by omega
          go_wp2_with fail
          go_ret
          have e : partD S O k = stateD ss O := by
            unfold partD stateD
            rw [List.take_of_length_le (by rw [HS.out.2.2.1]; exact Nat.le_refl _), HS.out.2.2.2]
          have h1 := HJ.out.1
          rw [e] at h1
          exact ⟨A3, c3, ss, HP.out.1, by rw [e]; rfl, h1, HS.out.2.1.trans HJ.out.2.1 (fun _ _ h => h) (fun _ _ h => h), fun j hj => Nat.le_trans HS.out.2.1.size (HJ.out.2.2 j hj), by rw [← e]; exact Nat.le_trans (HT.out k) hM⟩
    · have hlen2 : ss.length + (t1.length + t2.length + 1) = l.length := by
        have := HI.out.2.2.1.length_eq
        rw [hto] at this
        simp at this
        omega
      have hO' : Own w' 9 1 A1 c1 ss.length (ss.map sv) := HI.out.1.kp hk' (fun k hb e => hrb.1 (e ▸ hb))
      have hn' : New w w' := HI.out.2.2.2.1.trans hk' (fun _ _ h => h) (fun k hk e => by omega)
      have hz' := hk'.size
      have HN := Lib.hid (And.intro hto (And.intro hR' (And.intro hk' (And.intro hO' (And.intro hn' hrb)))))
      clear hto hR' hk' hO' hn' hcells hrb
      go_wp2_with (at_builtin; refine wpList_append_src _ rfl (.tmp 17) (.tmp 19) 89 89 rfl 9 (.string ⟨#[]⟩) 1 16 Tryd.underlying89 Tryd.info_str rfl A1 c1 ss.length (ss.map sv) rfl (HN.out.2.2.2.1.new (Kp.alloc _ _ _)) _ rfl 1 _ (Src.ofNew _ Tryd.underlying89 #[sv x.1] 9 1 1 1 rfl (by simp [Value.oneCell'])) (by omega) (by omega) ?_; intro A3 c3 w3 h31 h32 h33; have H3 := Lib.hid (And.intro h31 (And.intro h32 h33)); clear h31 h32 h33)
      have hkA : Kp (Bk A1) w' w3 := (Kp.alloc (fun _ => False) w' _).trans H3.out.2.1 (fun _ _ h => h.elim) (fun _ _ h => h)
      have hz3 := hkA.size
      have hbr := HI.out.2.2.2.2.2
      refine ⟨⟨A3, c3, ss ++ [x.1], t1 ++ t2, by simp, by simp; omega, Lib.hid ⟨?_, HN.out.2.1.keep ?_ ?_, ?_, HN.out.2.2.2.2.1.trans hkA (fun _ _ h => h) (fun k hk hb => by have := HI.out.2.2.2.2.1 k hb; omega), fun k hk => ?_, by omega⟩⟩, ?_⟩
      · have := H3.out.1
        rw [List.map_append, List.length_append]
        exact this
      · exact hkA.block b (by have := HI.out.2.2.2.1.size; omega) HN.out.2.2.2.2.2.2
      · exact hkA.block _ (by omega) HN.out.2.2.2.2.2.1
      · refine List.Perm.trans ?_ HI.out.2.2.1
        rw [HN.out.1, List.append_assoc, List.map_append, List.map_append, List.map_cons]
        exact List.Perm.append_left _ (by rw [List.singleton_append]; exact List.perm_middle.symm)
      · rcases H3.out.2.2 k hk with h | h
        · exact HI.out.2.2.2.2.1 k h
        · have h1 : (w'.alloc (.cells #[sv x.1] 9)).heap.size = w'.heap.size + 1 := by simp
          have := HI.out.2.2.2.1.size
          omega
      · simp [lenS]
        omega
end Go.Proofs.YtejmndfdmikfaaaDoor.Kit
