/- daily.Apply: all rows or none. -/
import Derived.Test.YtejmndfdmikfaaaDoorState9
import Derived.Test.YtejmndfdmikfaaaDoorLeft
namespace Go.Proofs.YtejmndfdmikfaaaDoor.Kit
open Go Go.RowKit

/-! ### Plain laws -/
abbrev Pst.dr (p : Pst) : DR := (p.acct, p.day, p.amt)
/-- It can stand in memory, and its name can be cut. -/
def Pst.Ok9 (p : Pst) : Prop := p.acct.length ≤ 1048576 ∧ -9223372036854775808 ≤ p.amt ∧ p.amt ≤ 9223372036854775807
def ofP (ps : List Pst) (n : List UInt8) : List Pst := ps.filter fun p => p.acct == n
theorem ofP_da (ps : List Pst) (n : List UInt8) : (ofP ps n).map Pst.da = ofD (ps.map Pst.dr) n := by
  unfold ofP ofD
  rw [List.filter_map, List.map_map]
  rfl
theorem ofP_snoc (ps : List Pst) (p : Pst) (n : List UInt8) : ofP (ps ++ [p]) n = if n = p.acct then ofP ps n ++ [p] else ofP ps n := by
  unfold ofP
  rw [List.filter_append]
  by_cases h : n = p.acct
  · subst h; simp
  · rw [if_neg h]
    have : (p.acct == n) = false := by simpa using fun e : p.acct = n => h e.symm
    simp [this]
theorem ofP_length (ps : List Pst) (n : List UInt8) : (ofP ps n).length ≤ ps.length := List.length_filter_le _ _
theorem ofP_mem {ps : List Pst} {n : List UInt8} {p : Pst} (h : p ∈ ofP ps n) : p ∈ ps ∧ p.acct = n := by
  obtain ⟨h1, h2⟩ := List.mem_filter.1 h
  exact ⟨h1, by simpa using h2⟩
/-- May this row come? -/
def rowD (r : DR) : Bool := goodD r.1 && isDayB r.2.1 && r.2.2 != -9223372036854775808
def okD (O : DO) (R : List DR) : Prop := R.all rowD = true ∧ ∀ n, FitD (plusD O R n)
theorem days_app_length (l m : List (Int × Int)) : (days (l ++ m)).length ≤ (days l).length + m.length := by
  rw [← days_app, days_length, days_length]
  have := canon_length (canon l ++ m)
  rw [List.length_append] at this
  omega
theorem filt_len {α : Type} (p : α → Bool) : ∀ l : List α, (l.filter p).length + (l.filter fun x => !p x).length = l.length
  | [] => rfl
  | x :: l => by
    have := filt_len p l
    rw [List.filter_cons, List.filter_cons, List.length_cons]
    cases h : p x with
    | true => rw [if_pos rfl, if_neg (by simp), List.length_cons]; omega
    | false => rw [if_neg (by simp), if_pos (by simp), List.length_cons]; omega
theorem names_sum : ∀ (N : List (List UInt8)) (R : List DR), N.Nodup → (N.map fun n => (ofD R n).length).sum ≤ R.length
  | [], R, _ => Nat.zero_le _
  | n :: N, R, h => by
    rw [List.nodup_cons] at h
    have ih := names_sum N (R.filter fun r => !(r.1 == n)) h.2
    have e1 : (N.map fun k => (ofD (R.filter fun r => !(r.1 == n)) k).length) = N.map fun k => (ofD R k).length := by
      refine List.map_congr_left fun k hk => ?_
      unfold ofD
      rw [List.filter_filter]
      congr 2
      refine List.filter_congr fun r _ => ?_
      by_cases hr : r.1 = k
      · have : r.1 ≠ n := fun e => h.1 (by rw [← e, hr]; exact hk)
        simp [hr, hr ▸ this]
      · simp [hr]
    rw [e1] at ih
    rw [List.map_cons, List.sum_cons]
    have e2 : (ofD R n).length + (R.filter fun r => !(r.1 == n)).length = R.length := by
      unfold ofD
      rw [List.length_map]
      exact filt_len _ R
    omega
theorem Ms.tot_set {α : Type} {ms : Ms α} (hn : ms.keys.Nodup) (n : List UInt8) (x : Sl α) : (ms.set n x).tot + (ms.at_ n).l.length = ms.tot + x.l.length := by
  by_cases h : n ∈ ms.keys
  · obtain ⟨y, hy, rfl⟩ := List.mem_map.1 h
    rw [Ms.at_mem hn hy]
    obtain ⟨l1, l2, rfl⟩ := List.append_of_mem hy
    unfold Ms.keys at hn
    rw [List.map_append, List.map_cons, List.nodup_append] at hn
    obtain ⟨hk1, hk2, hk3⟩ := hn
    rw [List.nodup_cons] at hk2
    have hs : (Ms.set (l1 ++ y :: l2) y.1 x) = l1 ++ (y.1, x) :: l2 := by
      unfold Ms.set
      rw [if_pos (List.any_eq_true.2 ⟨y, hy, by simp⟩), List.map_append, List.map_cons, if_pos rfl]
      have m1 : l1.map (fun z => if z.1 = y.1 then (y.1, x) else z) = l1 := by
        refine (List.map_congr_left (g := id) fun z hz => ?_).trans (List.map_id _)
        rw [if_neg fun e => hk3 z.1 (List.mem_map_of_mem (f := (·.1)) hz) y.1 (List.mem_cons_self ..) e]
        rfl
      have m2 : l2.map (fun z => if z.1 = y.1 then (y.1, x) else z) = l2 := by
        refine (List.map_congr_left (g := id) fun z hz => ?_).trans (List.map_id _)
        rw [if_neg fun e : z.1 = y.1 => hk2.1 (List.mem_map.2 ⟨z, hz, e⟩)]
        rfl
      rw [m1, m2]
    rw [hs]
    unfold Ms.tot
    simp only [List.map_append, List.map_cons, List.sum_append, List.sum_cons]
    omega
  · rw [Ms.set_new h, Ms.at_not h]
    unfold Ms.tot
    simp only [List.map_append, List.map_cons, List.map_nil, List.sum_append, List.sum_cons, List.sum_nil]
    show _ + 0 = _
    omega
theorem Ms.set_length {α : Type} (ms : Ms α) (n : List UInt8) (x : Sl α) : (ms.set n x).length ≤ ms.length + 1 := by
  unfold Ms.set
  split
  · rw [List.length_map]; omega
  · rw [List.length_append]; exact Nat.le_refl _
theorem all_take {R : List DR} {k : Nat} {r : DR} (h : R[k]? = some r) (hk : (R.take k).all rowD = true) (hr : rowD r = true) : (R.take (k + 1)).all rowD = true := by
  rw [take_get h, List.all_append, hk, List.all_cons, hr]
  rfl
theorem not_all {R : List DR} {k : Nat} {r : DR} (h : R[k]? = some r) (hr : rowD r = false) (O : DO) : ¬ okD O R := fun ho => by
  have := List.all_eq_true.1 ho.1 r (List.mem_of_getElem? h)
  rw [hr] at this
  cases this

/-! ### In memory -/
def ApplyPost9 (w : World) (v : Nat) (O : DO) (F : Nat → Prop) (M : Nat) (R : List DR) (e : Ending) (w' : World) : Prop :=
  (okD O R ∧ e = .returned (.int .i64 0) ∧ Kp F w w' ∧ ∃ F', ViewD w' v (plusD O R) F' (M + R.length) ∧ ∀ k, F' k → F k ∨ w.heap.size ≤ k) ∨ (¬ okD O R ∧ ∃ z, z ≠ 0 ∧ e = .returned (.int .i64 z) ∧ New w w')
theorem ApplyPost9.bad {w w' : World} {v : Nat} {O : DO} {F : Nat → Prop} {M : Nat} {R : List DR} {z : Int} (h : ¬ okD O R) (hz : z ≠ 0) (hn : New w w') : ApplyPost9 w v O F M R (.returned (.int .i64 z)) w' := .inr ⟨h, z, hz, rfl, hn⟩
/-- The first loop: the rows by account. -/
def ByI (w : World) (ps : List Pst) (k : Nat) (bs : Ms Pst) (wr : World) : Prop :=
  MapS wr w.heap.size 35 9 Pst.cells bs ∧ (∀ n, (bs.at_ n).l = ofP (ps.take k) n) ∧ New w wr ∧ (∀ b ∈ blks bs.sls, w.heap.size ≤ b) ∧ ((ps.map Pst.dr).take k).all rowD = true ∧ bs.length ≤ k ∧ (∀ n ∈ bs.keys, n ∈ namesD (ps.map Pst.dr))
/-- The second loop: the days to come. -/
def NextI (w : World) (nx it : Nat) (W3 : World) (O : DO) (R : List DR) (bs : Ms Pst) (wq : World) : Prop := ∃ (P : List (List UInt8)) (todo : List (List UInt8 × Value)) (ns : Ms (Int × Int × Int)),
  MapS wq nx 107 3 dcells ns ∧ ns.keys = P ∧ (∀ n ∈ P, (ns.at_ n).l = days (plusD O R n) ∧ FitD (plusD O R n)) ∧ (∀ b ∈ blks ns.sls, W3.heap.size ≤ b) ∧ Kp (fun k => k = nx ∨ k = it) W3 wq ∧ Rng wq w.heap.size it todo ∧ (P ++ todo.map (·.1)).Perm bs.keys ∧ ∀ x ∈ todo, x ∈ bs.prs
/-- The days so far: those of P are new. -/
def midD (O : DO) (R : List DR) (P : List (List UInt8)) : DO := fun n => if n ∈ P then plusD O R n else O n
/-- The third loop: the view's own map. -/
def PutI (m it nx : Nat) (W5 : World) (O : DO) (R : List DR) (M : Nat) (ms ns : Ms (Int × Int × Int)) (wq : World) : Prop := ∃ (P : List (List UInt8)) (todo : List (List UInt8 × Value)) (mc : Ms (Int × Int × Int)),
  MapS wq m 107 3 dcells mc ∧ (∀ n, (mc.at_ n).l = days (midD O R P n)) ∧ (∀ b ∈ blks mc.sls, b ∈ blks ms.sls ∨ ∃ y ∈ ns, y.1 ∈ P ∧ Bk y.2.A b) ∧ Kp (fun k => k = m ∨ k = it) W5 wq ∧ Rng wq nx it todo ∧ (P ++ todo.map (·.1)).Perm ns.keys ∧ (∀ x ∈ todo, x ∈ ns.prs) ∧ mc.tot ≤ M + (P.map fun n => (ofD R n).length).sum ∧ mc.length ≤ M + P.length
theorem prs_mem {α : Type} {ms : Ms α} {x : List UInt8 × Value} (h : x ∈ ms.prs) : ∃ s, (x.1, s) ∈ ms ∧ x.2 = s.val := by
  obtain ⟨y, hy, rfl⟩ := List.mem_map.1 h
  exact ⟨y.2, hy, rfl⟩
theorem perm_step {x : List UInt8 × Value} {t1 t2 todo : List (List UInt8 × Value)} {P l : List (List UInt8)} (ht : todo = t1 ++ x :: t2) (h : (P ++ todo.map (·.1)).Perm l) : ((P ++ [x.1]) ++ (t1 ++ t2).map (·.1)).Perm l := by
  rw [ht, List.map_append, List.map_cons] at h
  refine List.Perm.trans ?_ h
  rw [List.append_assoc, List.map_append]
  exact List.Perm.append_left _ (by rw [List.singleton_append]; exact List.perm_middle.symm)
theorem perm_not {x : List UInt8 × Value} {t1 t2 todo : List (List UInt8 × Value)} {P l : List (List UInt8)} (ht : todo = t1 ++ x :: t2) (h : (P ++ todo.map (·.1)).Perm l) (hl : l.Nodup) : x.1 ∉ P := by
  intro hm
  have hn := h.nodup_iff.2 hl
  rw [List.nodup_append] at hn
  exact hn.2.2 _ hm _ (List.mem_map_of_mem (f := (·.1)) (show x ∈ todo by rw [ht]; simp)) rfl
theorem Tryd.info_post9 : (Tryd.prog.info? 35).map (fun i => (i.zero, i.size, i.bytes)) = some (some (.agg #[.int .i64 0, .int .i64 0, .int .i64 0, .int .i64 0, .string ⟨#[]⟩, .string ⟨#[]⟩, .int .i64 0, .string ⟨#[]⟩, .string ⟨#[]⟩]), 9, 104) := by kernel_rfl
theorem look_by {w : World} {b : Nat} {bs : Ms Pst} (h : SMap w b bs.prs) (n : List UInt8) : (Instr.lookup 95 (.map (some b)) (.string (bstr n)) false).run Tryd.prog w = .ok (.slice (bs.at_ n).A (bs.at_ n).l.length (bs.at_ n).c) w := by
  have hz : (zeroValue 22).run Tryd.prog w = .ok (.slice none 0 0) w := by
    have := Tryd.zeroValue22
    simp [this]
  have := run_look (P := Tryd.prog) Tryd.underlying95 Tryd.underlying9 hz h n false
  rw [this, if_neg (by decide), Ms.at_prs]
  rfl
set_option maxRecDepth 100000 in
set_option maxHeartbeats 8000000 in
theorem Apply9_calls (w : World) (v : Nat) (O : DO) (F : Nat → Prop) (M : Nat) (A : Option Addr) (n c : Nat) (ps : List Pst) (h : ViewD w v O F M) (hP : RdP w A ps) (hn : n = ps.length) (hok : ∀ p ∈ ps, p.Ok9) (hM : M + n ≤ 4294967296) :
    Calls Tryd.prog 24 #[.pointer (some ⟨v, 0, none⟩), .slice A n c] w (ApplyPost9 w v O F M (ps.map Pst.dr)) := by
  have hmo : Tryd.prog.follows Departure.mixedOrders = true := by kernel_rfl
  have hmm := @run_makeMap Tryd.prog
  obtain ⟨R, hR⟩ : ∃ R, ps.map Pst.dr = R := ⟨_, rfl⟩
  rw [hR]
  have HX := Lib.hid (And.intro h (And.intro hP (And.intro hn (And.intro hok (And.intro hR hM)))))
  clear h hP hn hok hR
  have hnb : n ≤ 4294967296 := by omega
  go_enter Tryd.func24, Tryd.ntmps24
  go_wp2
  go_loopw [18] (fun i wr => ∃ k : Nat, i = .int .i64 (k : Int) ∧ k ≤ n ∧ Hid (∃ bs, ByI w ps k bs wr)) (fun i _ => n - (intOf i).toNat)
  case atStart =>
    exact ⟨0, rfl, Nat.zero_le _, Lib.hid ⟨[], MapS.made w _ _ _, fun n => rfl, Kp.alloc _ _ _, fun b hb => (by cases hb), rfl, Nat.zero_le _, fun n hn => (by cases hn)⟩⟩
  case round =>
    obtain ⟨k, rfl, hk, HI⟩ := hrel
    have hk0 : (0 : Int) ≤ k := by omega
    by_cases hlt : k < n
    · have hki : (k : Int) < (n : Int) := by omega
      obtain ⟨p, hp⟩ : ∃ p, ps[k]? = some p := ⟨_, List.getElem?_eq_getElem (by have := HX.out.2.2.1; omega)⟩
      obtain ⟨bs, hI⟩ := HI.out
      obtain ⟨b2, off, rfl, hcell⟩ := RdP.at_ (HX.out.2.1.new hI.2.2.1) hp
      obtain ⟨e0, e1, e2, e3, e4, e5, e6, e7, e8⟩ := hcell
      have hpo := HX.out.2.2.2.1 p (List.mem_of_getElem? hp)
      have hrow : R[k]? = some p.dr := by rw [← HX.out.2.2.2.2.1, List.getElem?_map, hp]; rfl
      obtain ⟨W1, hW1⟩ : ∃ W1, wr.alloc (.cells #[.int .i64 p.s, .int .i64 p.ln, .int .i64 p.day, .int .i64 p.kind, .string (bstr p.key), .string (bstr p.acct), .int .i64 p.amt, .string (bstr p.tag), .string (bstr p.memo)] 35) = W1 := ⟨_, rfl⟩
      have n1 : New wr W1 := hW1 ▸ Kp.alloc _ _ _
      have q1 : W1.heap[wr.heap.size]? = some (.cells #[.int .i64 p.s, .int .i64 p.ln, .int .i64 p.day, .int .i64 p.kind, .string (bstr p.key), .string (bstr p.acct), .int .i64 p.amt, .string (bstr p.tag), .string (bstr p.memo)] 35 (0, 0)) := by rw [← hW1]; exact heap_alloc_new wr _
      have hG := Good9_calls W1 p.acct (by have := hpo.1; omega)
      have HH := Lib.hid (And.intro hp (And.intro hI (And.intro hpo (And.intro hrow (And.intro n1 q1)))))
      have HW := Lib.hid hW1
      have HGd := Lib.hid hG
      clear hp hI hpo hrow n1 q1 hW1 hG
      go_wp2_with fail
      rw [HW.out]
      refine HGd.out.mono ?_
      rintro e W2 ⟨rfl, hn2⟩
      have q2 : W2.heap[wr.heap.size]? = _ := (hn2.block _ (Array.getElem?_eq_some_iff.1 HH.out.2.2.2.2.2).1 id).trans HH.out.2.2.2.2.2
      have c2 : W2.cell? ⟨wr.heap.size, 2, none⟩ = some (.int .i64 p.day) := (cell_of_block q2).trans rfl
      have c6 : W2.cell? ⟨wr.heap.size, 6, none⟩ = some (.int .i64 p.amt) := (cell_of_block q2).trans rfl
      have n2 : New wr W2 := HH.out.2.2.2.2.1.trans hn2 (fun _ _ h => h) (fun _ _ h => h)
      have nw2 : New w W2 := HH.out.2.1.2.2.1.trans n2 (fun _ _ h => h) (fun _ _ h => h)
      have H2 := Lib.hid (And.intro q2 (And.intro n2 nw2))
      clear q2 n2 nw2 hn2 e0 e1 e2 e3 e4 e5 e6 e7 e8
      cases hg : goodD p.acct with
      | false =>
        have HB := Lib.hid (not_all HH.out.2.2.2.1 (by unfold rowD; rw [hg]; rfl) O)
        clear hg
        go_wp2_with fail
        go_ret
        exact ApplyPost9.bad HB.out (by decide) H2.out.2.2
      | true =>
        have hI := isDay_calls W2 p.day
        cases hd : isDayB p.day with
        | false =>
          rw [hd] at hI
          have HB := Lib.hid (not_all HH.out.2.2.2.1 (by unfold rowD; rw [hg, hd]; rfl) O)
          clear hg hd
          go_wp2_with fail
          refine hI.mono ?_
          rintro e w3 ⟨rfl, rfl⟩
          clear hI
          go_wp2_with fail
          go_ret
          exact ApplyPost9.bad HB.out (by decide) H2.out.2.2
        | true =>
          rw [hd] at hI
          have hC := Check_calls W2 p.amt
          by_cases ham : p.amt = -9223372036854775808
          · rw [if_pos ham] at hC
            have HB := Lib.hid (not_all HH.out.2.2.2.1 (by unfold rowD; rw [hg, hd]; simp [ham]) O)
            clear hg hd ham
            go_wp2_with fail
            refine hI.mono ?_
            rintro e w3 ⟨rfl, rfl⟩
            clear hI
            go_wp2_with fail
            refine hC.mono ?_
            rintro e w3 ⟨rfl, rfl⟩
            clear hC
            go_wp2_with fail
            go_ret
            exact ApplyPost9.bad HB.out (by decide) H2.out.2.2
          · rw [if_neg ham] at hC
            have hrk : rowD p.dr = true := by unfold rowD; rw [hg, hd]; simpa using ham
            have HB := Lib.hid hrk
            clear hg hd ham hrk
            go_wp2_with fail
            refine hI.mono ?_
            rintro e w3 ⟨rfl, rfl⟩
            clear hI
            go_wp2_with fail
            refine hC.mono ?_
            rintro e w3 ⟨rfl, rfl⟩
            clear hC
            go_wp2_with fail
            obtain ⟨X, hX⟩ : ∃ X, (bs.at_ p.acct).A = X := ⟨_, rfl⟩
            obtain ⟨cx, hcx⟩ : ∃ cx, (bs.at_ p.acct).c = cx := ⟨_, rfl⟩
            obtain ⟨lx, hlx⟩ : ∃ lx, (bs.at_ p.acct).l.length = lx := ⟨_, rfl⟩
            have hMap2 := HH.out.2.1.1.new H2.out.2.1
            have hlook : ∀ V : World, V.heap[w.heap.size]? = W2.heap[w.heap.size]? → (Instr.lookup 95 (.map (some w.heap.size)) (.string (bstr p.acct)) false).run Tryd.prog V = .ok (.slice X lx cx) V := fun V hV => by
              have := look_by (hMap2.map.keep hV) p.acct
              rw [hX, hcx, hlx] at this
              exact this
            have hown : Own W2 35 9 X cx lx ((bs.at_ p.acct).l.flatMap Pst.cells) := by
              have := hMap2.own_at p.acct
              unfold OwnS at this
              rw [hX, hcx, hlx] at this
              exact this
            have hlxb : lx ≤ 4294967296 := by
              rw [← hlx, HH.out.2.1.2.1]
              have := ofP_length (ps.take k) p.acct
              rw [List.length_take] at this
              omega
            have cells : ∀ V : World, V.heap[wr.heap.size]? = W2.heap[wr.heap.size]? → V.heap[wr.heap.size]? = some (.cells #[.int .i64 p.s, .int .i64 p.ln, .int .i64 p.day, .int .i64 p.kind, .string (bstr p.key), .string (bstr p.acct), .int .i64 p.amt, .string (bstr p.tag), .string (bstr p.memo)] 35 (0, 0)) := fun V hV => hV.trans H2.out.1
            have hfact : ∀ V : World, V.heap[w.heap.size]? = W2.heap[w.heap.size]? → V.heap[wr.heap.size]? = W2.heap[wr.heap.size]? → (V.cell? ⟨wr.heap.size, 0, none⟩ = some (.int .i64 p.s) ∧ V.cell? ⟨wr.heap.size, 1, none⟩ = some (.int .i64 p.ln) ∧ V.cell? ⟨wr.heap.size, 2, none⟩ = some (.int .i64 p.day) ∧ V.cell? ⟨wr.heap.size, 3, none⟩ = some (.int .i64 p.kind) ∧ V.cell? ⟨wr.heap.size, 4, none⟩ = some (.string (bstr p.key)) ∧ V.cell? ⟨wr.heap.size, 5, none⟩ = some (.string (bstr p.acct)) ∧ V.cell? ⟨wr.heap.size, 6, none⟩ = some (.int .i64 p.amt) ∧ V.cell? ⟨wr.heap.size, 7, none⟩ = some (.string (bstr p.tag)) ∧ V.cell? ⟨wr.heap.size, 8, none⟩ = some (.string (bstr p.memo))) ∧ (Instr.lookup 95 (.map (some w.heap.size)) (.string (bstr p.acct)) false).run Tryd.prog V = .ok (.slice X lx cx) V := fun V h1 h2 => by
              have h := cells _ h2
              exact ⟨⟨(cell_of_block h).trans rfl, (cell_of_block h).trans rfl, (cell_of_block h).trans rfl, (cell_of_block h).trans rfl, (cell_of_block h).trans rfl, (cell_of_block h).trans rfl, (cell_of_block h).trans rfl, (cell_of_block h).trans rfl, (cell_of_block h).trans rfl⟩, hlook _ h1⟩
            have hszb : w.heap.size < W2.heap.size ∧ wr.heap.size < W2.heap.size := ⟨hMap2.lt, (Array.getElem?_eq_some_iff.1 H2.out.1).1⟩
            have hXb : ∀ b, Bk X b → b ∈ blks bs.sls := fun b hb => Ms.at_bk (ms := bs) (n := p.acct) (by rw [hX]; exact hb)
            have hXn : ¬ Bk X w.heap.size ∧ ¬ Bk X wr.heap.size := ⟨fun hb => HH.out.2.1.1.not_own (hXb _ hb), fun hb => by have := HH.out.2.1.1.blk_lt _ (hXb _ hb); omega⟩
            have HL := Lib.hid (And.intro hMap2 (And.intro hown (And.intro hX (And.intro hcx (And.intro hlx (And.intro hszb (And.intro hXb hXn)))))))
            have HF := Lib.hid hfact
            clear hMap2 hown hX hcx hlx hlook cells c2 c6 hfact hszb hXb hXn
            refine wp_region_line (fun V => (V.cell? ⟨wr.heap.size, 0, none⟩ = some (.int .i64 p.s) ∧ V.cell? ⟨wr.heap.size, 1, none⟩ = some (.int .i64 p.ln) ∧ V.cell? ⟨wr.heap.size, 2, none⟩ = some (.int .i64 p.day) ∧ V.cell? ⟨wr.heap.size, 3, none⟩ = some (.int .i64 p.kind) ∧ V.cell? ⟨wr.heap.size, 4, none⟩ = some (.string (bstr p.key)) ∧ V.cell? ⟨wr.heap.size, 5, none⟩ = some (.string (bstr p.acct)) ∧ V.cell? ⟨wr.heap.size, 6, none⟩ = some (.int .i64 p.amt) ∧ V.cell? ⟨wr.heap.size, 7, none⟩ = some (.string (bstr p.tag)) ∧ V.cell? ⟨wr.heap.size, 8, none⟩ = some (.string (bstr p.memo))) ∧ (Instr.lookup 95 (.map (some w.heap.size)) (.string (bstr p.acct)) false).run Tryd.prog V = .ok (.slice X lx cx) V) (pl := [(0, true), (1, true), (2, true), (3, true), (4, true), (5, true), (6, true), (7, true), (8, false), (9, false), (10, false)]) hmo (by kernel_rfl) (HF.out _ rfl rfl) ?_
            iterate 8 (refine line_get rfl rfl (fun K hK => ?_); apply Exists.intro; refine ⟨fun w hS => ?_, ?_⟩; (first | (have hS' := hS rfl; go_simp; with_reducible rfl) | (go_simp; with_reducible rfl)); (go_simp; refine hK _ ?_; clear hK K))
            (refine line_do rfl rfl (fun K hK => ?_); go_simp)
            have nA : New W2 (W2.drew.alloc (.cells #[.int .i64 p.s, .int .i64 p.ln, .int .i64 p.day, .int .i64 p.kind, .string (bstr p.key), .string (bstr p.acct), .int .i64 p.amt, .string (bstr p.tag), .string (bstr p.memo)] 35)) := (Kp.drew _ W2).trans (Kp.alloc _ _ _) (fun _ _ h => h) (fun _ _ h => h)
            refine hK _ _ (fun _ => HF.out _ (nA.block _ HL.out.2.2.2.2.2.1.1 id) (nA.block _ HL.out.2.2.2.2.2.1.2 id)) ?_
            clear hK K
            refine line_do rfl rfl (fun K hK => ?_)
            refine wp_append_src _ (.tmp 44) (.tmp 46) 22 22 rfl 35 _ 9 104 Tryd.underlying22 Tryd.info_post9 rfl X cx lx ((bs.at_ p.acct).l.flatMap Pst.cells) rfl (HL.out.2.1.new nA) _ rfl 1 _ (Src.ofNew W2.drew Tryd.underlying22 #[.int .i64 p.s, .int .i64 p.ln, .int .i64 p.day, .int .i64 p.kind, .string (bstr p.key), .string (bstr p.acct), .int .i64 p.amt, .string (bstr p.tag), .string (bstr p.memo)] 35 9 1 1 rfl (by simp [Value.oneCell'])) (by omega) (by omega) ?_
            intro A3 c3 w3 h31 h32 h33
            have k3 : Kp (Bk X) W2 w3 := nA.trans h32 (fun _ _ (h : False) => h.elim) (fun _ _ h => h)
            refine hK _ _ (fun _ => HF.out _ (k3.block _ HL.out.2.2.2.2.2.1.1 HL.out.2.2.2.2.2.2.2.1) (k3.block _ HL.out.2.2.2.2.2.1.2 HL.out.2.2.2.2.2.2.2.2)) ?_
            clear hK K
            refine line_do rfl rfl (fun K hK => ?_)
            have hm3 : SMap w3 w.heap.size bs.prs := HL.out.1.map.keep (k3.block _ HL.out.2.2.2.2.2.1.1 HL.out.2.2.2.2.2.2.2.1)
            refine wp_mapput 95 (.tmp 38) (.tmp 40) (.tmp 47) rfl 9 22 Tryd.underlying95 Tryd.underlying9 w.heap.size bs.prs rfl hm3 p.acct rfl (.slice A3 (lx + 1) c3) rfl ?_
            intro w4 m4 k4
            have HS := Lib.hid (And.intro h31 (And.intro h33 (And.intro k3 (And.intro m4 k4))))
            clear h31 h32 h33 k3 hm3 m4 k4 nA
            refine hK _ _ (no_need (by kernel_rfl)) ?_
            clear hK K
            refine line_nil ?_
            go_wp2_with fail
            refine ⟨⟨k + 1, by go_num, by omega, Lib.hid ⟨bs.set p.acct ⟨A3, c3, (bs.at_ p.acct).l ++ [p]⟩, ?_⟩⟩, by simp [intOf]; omega⟩
            have hA3 : ∀ b, Bk A3 b → Bk (bs.at_ p.acct).A b ∨ W2.heap.size ≤ b := fun b hb => by
              rw [HL.out.2.2.1]
              refine (HS.out.2.1 b hb).imp id fun e => ?_
              simp at e
              omega
            have hk34 : ∀ b, b < W2.heap.size → b ≠ w.heap.size → ¬ Bk X b → w4.heap[b]? = W2.heap[b]? := fun b h1 h2 h3 => (HS.out.2.2.2.2.block b (Nat.lt_of_lt_of_le h1 HS.out.2.2.1.size) h2).trans (HS.out.2.2.1.block b h1 h3)
            have hnw : w.heap.size ∉ blks bs.sls := HL.out.1.not_own
            have hA3w : ¬ Bk A3 w.heap.size := fun hb => by
              rcases HS.out.2.1 _ hb with h | h
              · exact HL.out.2.2.2.2.2.2.2.1 h
              · have := HL.out.2.2.2.2.2.1.1
                simp at h
                omega
            refine ⟨HL.out.1.set p.acct ⟨A3, c3, (bs.at_ p.acct).l ++ [p]⟩ ?_ ?_ ?_ ?_, ?_, ?_, ?_, ?_, ?_, ?_⟩
            · have := HS.out.2.2.2.1
              unfold Sl.val
              simp only [List.length_append, List.length_cons, List.length_nil, HL.out.2.2.2.2.1]
              exact this
            · unfold OwnS
              simp only [List.length_append, List.length_cons, List.length_nil, List.flatMap_append, HL.out.2.2.2.2.1]
              exact Own.kp HS.out.1 HS.out.2.2.2.2 fun b hb e => hA3w (e ▸ hb)
            · intro b hb
              refine (hA3 b hb).imp id fun h hm => ?_
              have := HL.out.1.blk_lt b hm
              omega
            · intro y hy hne b hb
              have hbm : b ∈ blks bs.sls := mem_blks.2 ⟨y.2, List.mem_map_of_mem (f := (·.2)) hy, hb⟩
              exact hk34 b (HL.out.1.blk_lt b hbm) (fun e => hnw (e ▸ hbm)) fun hx => HL.out.1.other hy hne (by rw [HL.out.2.2.1]; exact hx) hb
            · intro m
              have hps : ps.take (k + 1) = ps.take k ++ [p] := take_get HH.out.1
              rw [Ms.set_at, hps, ofP_snoc]
              split
              · rename_i e
                subst e
                rw [HH.out.2.1.2.1]
              · exact HH.out.2.1.2.1 m
            · refine (H2.out.2.2.trans HS.out.2.2.1 (U := fun _ => False) (fun _ _ h => h) (fun b hb h => ?_)).trans HS.out.2.2.2.2 (fun _ _ h => h) (fun b hb e => by omega)
              have := HH.out.2.1.2.2.2.1 b (HL.out.2.2.2.2.2.2.1 b h)
              omega
            · intro b hb
              obtain ⟨s, hs, hB⟩ := mem_blks.1 hb
              obtain ⟨y, hy, rfl⟩ := List.mem_map.1 hs
              rcases Ms.mem_set hy with ⟨h1, _⟩ | rfl
              · exact HH.out.2.1.2.2.2.1 b (mem_blks.2 ⟨y.2, List.mem_map_of_mem (f := (·.2)) h1, hB⟩)
              · rcases hA3 b hB with h | h
                · exact HH.out.2.1.2.2.2.1 b (Ms.at_bk h)
                · have := H2.out.2.2.size
                  omega
            · have h := HH.out.2.1.2.2.2.2.1
              rw [HX.out.2.2.2.2.1] at h ⊢
              exact all_take HH.out.2.2.2.1 h HB.out
            · exact Nat.le_trans (Ms.set_length _ _ _) (by have := HH.out.2.1.2.2.2.2.2.1; omega)
            · intro m hm
              rw [Ms.set_keys] at hm
              have hpn : p.acct ∈ namesD (ps.map Pst.dr) := List.mem_map.2 ⟨p.dr, List.mem_map.2 ⟨p, List.mem_of_getElem? HH.out.1, rfl⟩, rfl⟩
              split at hm
              · exact HH.out.2.1.2.2.2.2.2.2 m hm
              · rcases List.mem_append.1 hm with h | h
                · exact HH.out.2.1.2.2.2.2.2.2 m h
                · rw [List.mem_singleton.1 h]
                  exact hpn
    · obtain rfl : k = n := by omega
      obtain ⟨bs, hI⟩ := HI.out
      have hbl : ∀ m, (bs.at_ m).l = ofP ps m := fun m => by rw [hI.2.1 m, List.take_of_length_le (by have := HX.out.2.2.1; omega)]
      have hall : R.all rowD = true := by
        have h := hI.2.2.2.2.1
        rw [HX.out.2.2.2.2.1, List.take_of_length_le (by rw [← HX.out.2.2.2.2.1, List.length_map]; have := HX.out.2.2.1; omega)] at h
        exact h
      have nV : New wr (wr.alloc (.map #[] 0)) := Kp.alloc _ _ _
      have hby := hI.1.new nV
      obtain ⟨it, hr, hRg⟩ := run_range (P := Tryd.prog) Tryd.underlying95 hby.map
      obtain ⟨W2, hW2⟩ : ∃ W2, wr.alloc (.map #[] 0) = W2 := ⟨_, rfl⟩
      have hnx : MapS W2 wr.heap.size 107 3 dcells [] := hW2 ▸ MapS.made wr _ _ _
      have hz2 : W2.heap.size = wr.heap.size + 1 := by rw [← hW2]; simp
      rw [hW2] at hr hRg hby nV
      have n23 : New W2 (W2.alloc it) := Kp.alloc _ _ _
      have hbs : w.heap.size < wr.heap.size := hI.1.lt
      have hnwr : New w wr := hI.2.2.1
      have HA := Lib.hid (And.intro hI (And.intro hbl (And.intro hall (And.intro hby (And.intro hRg (And.intro hnx (And.intro n23 (And.intro nV hnwr))))))))
      have HW2 := Lib.hid (And.intro hW2 hz2)
      rw [hz2] at hr
      clear hI hbl hall hby hRg hnx n23 nV hnwr hz2
      go_wp2_with fail
      go_loopw [11] (fun _ wq => Hid (NextI w wr.heap.size (wr.heap.size + 1) (W2.alloc it) O R bs wq)) (fun _ wq => leftM w.heap.size (wr.heap.size + 1) wq)
      case atStart =>
        have h1 := HA.out.2.2.2.2.2.1.new HA.out.2.2.2.2.2.2.1
        have h2 := HA.out.2.2.2.2.1
        rw [HW2.out.2] at h2
        refine Lib.hid ⟨[], bs.prs, [], h1, rfl, fun n h => (by cases h), fun b h => (by cases h), Kp.refl _ _, h2, ?_, fun _ h => h⟩
        rw [List.nil_append, Ms.keys_prs]
      case round =>
        rename World => Wq
        obtain ⟨P, todo, ns, hns, hnk, hnP, hnb2, hkk, hRg, hperm, hsub⟩ := hrel.out
        have hmeas := hRg.leftM
        have hkz := hkk.size
        have hz3 : (W2.alloc it).heap.size = wr.heap.size + 2 := by simp [HW2.out.2]
        obtain ⟨m, ms, hV⟩ := HX.out.1
        have hnwW : New w (W2.alloc it) := (HA.out.2.2.2.2.2.2.2.2.trans HA.out.2.2.2.2.2.2.2.1 (fun _ _ h => h) (fun _ _ h => h)).trans HA.out.2.2.2.2.2.2.1 (fun _ _ h => h) (fun _ _ h => h)
        rcases run_next (P := Tryd.prog) hRg (by omega) with ⟨h0, hn⟩ | ⟨t1, x, t2, w', hto, hn, hR', hk', hen⟩
        · have hPk : P.Perm bs.keys := by rw [h0] at hperm; simpa using hperm
          obtain ⟨it2, hr2, hRg2⟩ := run_range (P := Tryd.prog) Tryd.underlying92 hns.map
          have n5 : New Wq (Wq.alloc it2) := Kp.alloc _ _ _
          have hnwq : New w Wq := hnwW.trans hkk (U := fun _ => False) (fun _ _ h => h) (fun b hb h => by omega)
          have hV5 := (hV.new hnwq).new n5
          have hns5 := hns.new n5
          have hvlt := hV.lt
          have HQ := Lib.hid (And.intro hPk (And.intro hnk (And.intro hnP (And.intro hnb2 (And.intro hV5 (And.intro hns5 (And.intro hRg2 (And.intro (hnwq.trans n5 (fun _ _ h => h) (fun _ _ h => h)) (And.intro hV (And.intro hvlt hz3))))))))))
          have hz5 : (Wq.alloc it2).heap.size = Wq.heap.size + 1 := by simp
          have HQ2 := Lib.hid hns
          obtain ⟨hvl1, hvl2, hvl3⟩ := hvlt
          clear h0 hperm hPk hnk hnP hnb2 hV5 hns5 hRg2 n5 hnwq hkk hRg hsub hmeas hns hrel hnwW hV hvl3
          go_wp2_with fail
          go_loopw [13] (fun _ wz => Hid (PutI m Wq.heap.size wr.heap.size (Wq.alloc it2) O R M ms ns wz)) (fun _ wz => leftM wr.heap.size Wq.heap.size wz)
          case atStart =>
            refine Lib.hid ⟨[], ns.prs, ms, HQ.out.2.2.2.2.1.map, fun n => ?_, fun b hb => .inl hb, Kp.refl _ _, HQ.out.2.2.2.2.2.2.1, ?_, fun _ h => h, ?_, ?_⟩
            · have : midD O R [] n = O n := by unfold midD; rw [if_neg (List.not_mem_nil)]
              rw [this]
              exact HQ.out.2.2.2.2.2.2.2.2.1.shows n
            · rw [List.nil_append, Ms.keys_prs]
            · have := HQ.out.2.2.2.2.2.2.2.2.1.tot
              simp
              omega
            · have := HQ.out.2.2.2.2.2.2.2.2.1.len
              simp
              omega
          case round =>
            rename World => Wz
            obtain ⟨P2, todo2, mc, hmc, hmsh, hmb, hkk2, hRg3, hperm2, hsub2, htot, hlen⟩ := hrel.out
            have hmeas2 := hRg3.leftM
            have hkz2 := hkk2.size
            rcases run_next (P := Tryd.prog) hRg3 (by have := HQ.out.2.2.2.2.2.2.2.2.2.2; omega) with ⟨h0, hn2⟩ | ⟨t1, x, t2, w', hto, hn2, hR', hk', hen⟩
            · have hP2 : P2.Perm bs.keys := by
                have h1 : P2.Perm ns.keys := by rw [h0] at hperm2; simpa using hperm2
                rw [HQ.out.2.1] at h1
                exact h1.trans HQ.out.1
              have hout : ∀ n, n ∉ bs.keys → ofD R n = [] := fun n hn => by
                have h1 := HA.out.2.1 n
                rw [Ms.at_not hn] at h1
                have h2 := ofP_da ps n
                rw [← h1, HX.out.2.2.2.2.1] at h2
                exact h2.symm
              have hfitR : ∀ n, FitD (plusD O R n) := fun n => by
                by_cases hn : n ∈ bs.keys
                · exact (HQ.out.2.2.1 n (HQ.out.1.mem_iff.2 hn)).2
                · unfold plusD
                  rw [hout n hn, List.append_nil]
                  exact HQ.out.2.2.2.2.2.2.2.2.1.fit n
              have hshow : ∀ n, (mc.at_ n).l = days (plusD O R n) := fun n => by
                rw [hmsh n]
                unfold midD
                split
                · rfl
                · rename_i hn
                  unfold plusD
                  rw [hout n fun h => hn (hP2.mem_iff.2 h), List.append_nil]
              have hnd2 : P2.Nodup := hP2.nodup_iff.2 HA.out.2.2.2.1.nodup
              have hPl : P2.length ≤ R.length := by
                rw [hP2.length_eq]
                unfold Ms.keys
                rw [List.length_map, ← HX.out.2.2.2.2.1, List.length_map, ← HX.out.2.2.1]
                exact HA.out.1.2.2.2.2.2.1
              have hsum := names_sum P2 R hnd2
              have HZ := Lib.hid (And.intro hmc (And.intro hfitR (And.intro hshow (And.intro hmb (And.intro hkk2 (And.intro htot (And.intro hlen (And.intro hPl hsum))))))))
              clear h0 hmc hmsh hmb hkk2 hRg3 hperm2 hsub2 htot hlen hP2 hout hfitR hshow hnd2 hPl hsum hmeas2 hrel
              go_wp2_with fail
              go_ret
              have hVw := HQ.out.2.2.2.2.2.2.2.2.1
              have hrows : ∀ n, ∀ r ∈ ofD R n, goodD n = true ∧ n.length ≤ 1048576 ∧ isDayB r.1 = true := by
                intro n r hr
                have hm := mem_ofD hr
                have h1 := List.all_eq_true.1 HA.out.2.2.1 _ hm
                unfold rowD at h1
                simp only [Bool.and_eq_true] at h1
                rw [← HX.out.2.2.2.2.1] at hm
                obtain ⟨p, hp, e⟩ := List.mem_map.1 hm
                have h2 := HX.out.2.2.2.1 p hp
                have e1 : p.acct = n := congrArg Prod.fst e
                exact ⟨h1.1.1, by rw [← e1]; exact h2.1, h1.1.2⟩
              have hdays : ∀ n, ∀ x ∈ days (plusD O R n), (∃ y ∈ days (O n), y.1 = x.1) ∨ ∃ r ∈ ofD R n, r.1 = x.1 := by
                intro n x hx
                unfold plusD at hx
                rw [← days_app] at hx
                obtain ⟨r, hr, e⟩ := days_told hx
                rcases List.mem_append.1 hr with hr | hr
                · obtain ⟨h1, h2⟩ := mem_canon.1 hr
                  exact .inl ⟨_, days_at (l := O n) (d := r.1) (by rw [← h1]; exact h2), e⟩
                · exact .inr ⟨r, hr, e⟩
              have hmF : F m := hVw.foot m (.inr (.inl rfl))
              refine .inl ⟨⟨HA.out.2.2.1, HZ.out.2.1⟩, rfl, HQ.out.2.2.2.2.2.2.2.1.trans HZ.out.2.2.2.2.1 (fun _ _ h => h.elim) (fun b hb h => h.elim (fun e => e ▸ hmF) (fun e => by have := HQ.out.2.2.2.2.2.2.2.2.2.2; omega)), _, ⟨m, mc, ?_, HZ.out.1, HZ.out.2.2.1, fun b h => h, HZ.out.2.1, fun n hn => ?_, fun n x hx => ?_, ?_, ?_⟩, fun b hb => ?_⟩
              · have hvm : v ≠ m := fun e => by
                  have h1 := hVw.blk
                  obtain ⟨es, clock, h2, _⟩ := hVw.map.map
                  rw [e, h2] at h1
                  cases h1
                exact (HZ.out.2.2.2.2.1.block v (by omega) (fun h => h.elim hvm (fun e => by omega))).trans HQ.out.2.2.2.2.1.blk
              · obtain ⟨x, hx⟩ := List.exists_mem_of_ne_nil _ hn
                rcases hdays n x hx with ⟨y, hy, _⟩ | ⟨r, hr, _⟩
                · exact hVw.good n (List.ne_nil_of_mem hy)
                · exact ⟨(hrows n r hr).1, (hrows n r hr).2.1⟩
              · rcases hdays n x hx with ⟨y, hy, e⟩ | ⟨r, hr, e⟩
                · rw [← e]
                  exact hVw.isday n y hy
                · rw [← e]
                  exact (hrows n r hr).2.2
              · have h1 := HZ.out.2.2.2.2.2.1
                have h2 := HZ.out.2.2.2.2.2.2.2.2
                omega
              · have h1 := HZ.out.2.2.2.2.2.2.1
                have h2 := HZ.out.2.2.2.2.2.2.2.1
                omega
              · rcases hb with h | h | h
                · exact .inl (hVw.foot b (.inl h))
                · exact .inl (hVw.foot b (.inr (.inl h)))
                · rcases HZ.out.2.2.2.1 b h with h | ⟨y, hy, _, hB⟩
                  · exact .inl (hVw.foot b (.inr (.inr h)))
                  · refine .inr ?_
                    have h1 := HQ.out.2.2.2.1 b (mem_blks.2 ⟨y.2, List.mem_map_of_mem (f := (·.2)) hy, hB⟩)
                    have h2 := HQ.out.2.2.2.2.2.2.2.2.2.2
                    omega
            · obtain ⟨s, hs, hxv⟩ := prs_mem (hsub2 x (by rw [hto]; simp))
              rw [hxv] at hn2 hen
              have hz3' := HQ.out.2.2.2.2.2.2.2.2.2.2
              have hmq : m < Wq.heap.size := by omega
              have hns' : MapS w' wr.heap.size 107 3 dcells ns := (HQ.out.2.2.2.2.2.1.kp hkk2 (by omega) (fun b hb h => by
                have h1 := HQ.out.2.2.2.1 b hb
                have h2 := HQ2.out.blk_lt b hb
                omega)).kp hk' (by omega) (fun b hb e => by have h2 := HQ2.out.blk_lt b hb; omega)
              have hmcb : ∀ b ∈ blks mc.sls, b < Wq.heap.size := fun b hb => by
                rcases hmb b hb with h | ⟨y, hy, _, hB⟩
                · have := HQ.out.2.2.2.2.2.2.2.2.2.1.2.2 b h
                  omega
                · exact HQ2.out.blk_lt b (mem_blks.2 ⟨y.2, List.mem_map_of_mem (f := (·.2)) hy, hB⟩)
              have hmc' := hmc.kp hk' (by omega) (fun b hb e => by have h2 := hmcb b hb; omega)
              have hkz' := hk'.size
              have hvm : v ≠ m := fun e => by
                have h1 := HQ.out.2.2.2.2.2.2.2.2.1.blk
                obtain ⟨es, clock, h2, _⟩ := HQ.out.2.2.2.2.2.2.2.2.1.map.map
                rw [e, h2] at h1
                cases h1
              have hvb : w'.heap[v]? = some (.cells #[.map (some m)] 94 (0, 0)) := ((hk'.block v (by omega) (by omega)).trans (hkk2.block v (by omega) (fun h => h.elim hvm (fun e => by omega)))).trans HQ.out.2.2.2.2.1.blk
              have d0 : w'.cell? ⟨v, 0, none⟩ = some (.map (some m)) := (cell_of_block hvb).trans rfl
              have hnP2 : x.1 ∉ P2 := perm_not hto hperm2 HQ2.out.nodup
              have hsat : (ns.at_ x.1) = s := Ms.at_mem HQ2.out.nodup hs
              have hxk : x.1 ∈ P := by rw [← HQ.out.2.1]; exact List.mem_map.2 ⟨_, hs, rfl⟩
              have hsl : s.l = days (plusD O R x.1) := by rw [← hsat]; exact (HQ.out.2.2.1 x.1 hxk).1
              have hol : (mc.at_ x.1).l = days (O x.1) := by
                rw [hmsh x.1]
                unfold midD
                rw [if_neg hnP2]
              obtain ⟨w6, hput, m6, k6⟩ := run_put (P := Tryd.prog) Tryd.underlying92 Tryd.underlying9 hmc'.map x.1 s.val
              have hown := hns'.own _ hs
              have hsb : ∀ b, Bk s.A b → b ∈ blks ns.sls := fun b hb => mem_blks.2 ⟨s, List.mem_map.2 ⟨(x.1, s), hs, rfl⟩, hb⟩
              have hset : MapS w6 m 107 3 dcells (mc.set x.1 s) := by
                refine hmc'.set x.1 s m6 (Own.kp hown k6 fun b hb e => by have := HQ.out.2.2.2.1 b (hsb b hb); omega) (fun b hb => .inr fun hm => ?_) (fun y hy _ b hb => k6.block b (hmc'.blk_lt b (mem_blks.2 ⟨y.2, List.mem_map_of_mem (f := (·.2)) hy, hb⟩)) fun e => hmc'.not_own (mem_blks.2 ⟨y.2, List.mem_map_of_mem (f := (·.2)) hy, e ▸ hb⟩))
                rcases hmb b hm with h | ⟨y, hy, hyP, hB⟩
                · have h1 := HQ.out.2.2.2.2.2.2.2.2.2.1.2.2 b h
                  have h2 := HQ.out.2.2.2.1 b (hsb b hb)
                  omega
                · refine HQ2.out.other hy (n := x.1) (fun e => hnP2 (e ▸ hyP)) ?_ hB
                  rw [hsat]
                  exact hb
              have htot2 := Ms.tot_set (ms := mc) hmc.nodup x.1 s
              have hdl := days_app_length (O x.1) (ofD R x.1)
              have hrn : Rng w6 wr.heap.size Wq.heap.size (t1 ++ t2) := hR'.keep (k6.block _ (by omega) (by omega)) (k6.block _ (by omega) (by omega))
              have hfin : PutI m Wq.heap.size wr.heap.size (Wq.alloc it2) O R M ms ns w6 ∧ leftM wr.heap.size Wq.heap.size w6 < leftM wr.heap.size Wq.heap.size Wz := by
                refine ⟨⟨P2 ++ [x.1], t1 ++ t2, mc.set x.1 s, hset, fun n => ?_, fun b hb => ?_, (hkk2.trans hk' (U := fun k => k = m ∨ k = Wq.heap.size) (fun _ _ h => h) (fun _ _ h => .inr h)).trans k6 (fun _ _ h => h) (fun _ _ h => .inl h), hrn, perm_step hto hperm2, fun z hz => hsub2 z ?_, ?_, ?_⟩, ?_⟩
                · rw [Ms.set_at]
                  unfold midD
                  by_cases e : n = x.1
                  · rw [if_pos e, if_pos (by rw [e]; simp), e, hsl]
                  · rw [if_neg e, hmsh n]
                    unfold midD
                    have : (n ∈ P2 ++ [x.1]) ↔ n ∈ P2 := by simp [e]
                    simp only [this]
                · obtain ⟨z, hz, hB⟩ := mem_blks.1 hb
                  obtain ⟨y, hy, rfl⟩ := List.mem_map.1 hz
                  rcases Ms.mem_set hy with ⟨h1, _⟩ | rfl
                  · rcases hmb b (mem_blks.2 ⟨y.2, List.mem_map_of_mem (f := (·.2)) h1, hB⟩) with h | ⟨q, hq, hqP, hqB⟩
                    · exact .inl h
                    · exact .inr ⟨q, hq, List.mem_append_left _ hqP, hqB⟩
                  · exact .inr ⟨_, hs, List.mem_append_right _ (List.mem_singleton.2 rfl), hB⟩
                · rw [hto]
                  rcases List.mem_append.1 hz with hz | hz
                  · exact List.mem_append_left _ hz
                  · exact List.mem_append_right _ (List.mem_cons_of_mem _ hz)
                · rw [List.map_append, List.sum_append]
                  rw [hol, hsl] at htot2
                  unfold plusD at htot2
                  simp only [List.map_cons, List.map_nil, List.sum_cons, List.sum_nil]
                  omega
                · have := Ms.set_length mc x.1 s
                  rw [List.length_append]
                  simp only [List.length_cons, List.length_nil]
                  omega
                · rw [hrn.leftM, hmeas2, hto]
                  simp
              have HZ := Lib.hid hfin
              clear hns' hmcb hmc' hvb hnP2 hsat hxk hsl hol m6 k6 hown hsb hset htot2 hdl hrn hfin hmc hmsh hmb hkk2 hRg3 hperm2 hsub2 htot hlen hmeas2 hR' hk' hto hs hxv hrel
              unfold Sl.val at hn2 hen hput
              generalize s.A = sA at hn2 hen hput
              generalize s.l.length = sn at hn2 hen hput
              generalize s.c = sc at hn2 hen hput
              go_wp2_with fail
              exact ⟨Lib.hid HZ.out.1, HZ.out.2⟩
        · obtain ⟨s, hs, hxv⟩ := prs_mem (hsub x (by rw [hto]; simp))
          rw [hxv] at hn hen
          have hnw' : New w w' := (hnwW.trans hkk (U := fun _ => False) (fun _ _ h => h) (fun b hb h => by omega)).trans hk' (fun _ _ h => h) (fun b hb e => by omega)
          have hV' := hV.new hnw'
          have d0 : w'.cell? ⟨v, 0, none⟩ = some (.map (some m)) := (cell_of_block hV'.blk).trans rfl
          have hlook := hV'.look x.1
          have hsl : s.l = ofP ps x.1 := by
            rw [← HA.out.2.1 x.1]
            exact (congrArg Sl.l (Ms.at_mem HA.out.2.2.2.1.nodup hs)).symm
          have hby' : MapS w' w.heap.size 35 9 Pst.cells bs := ((HA.out.2.2.2.1.new HA.out.2.2.2.2.2.2.1).kp hkk (by omega) (fun b hb h => by have := HA.out.1.1.blk_lt b hb; omega)).kp hk' (by omega) (fun b hb h => by have := HA.out.1.1.blk_lt b hb; omega)
          have hown := hby'.own _ hs
          unfold OwnS at hown
          have hkey : x.1 ∈ namesD R := by
            have := HA.out.1.2.2.2.2.2.2 x.1 (List.mem_map.2 ⟨_, hs, rfl⟩)
            rw [HX.out.2.2.2.2.1] at this
            exact this
          have hpl : (ofP ps x.1).length ≤ k := by have := ofP_length ps x.1; have := HX.out.2.2.1; omega
          have hnot := perm_not hto hperm HA.out.2.2.2.1.nodup
          have hpd : O x.1 ++ (ofP ps x.1).map Pst.da = plusD O R x.1 := by rw [ofP_da, HX.out.2.2.2.2.1]; rfl
          have hT := told_calls w' (ms.at_ x.1).A s.A (days (O x.1)).length (ms.at_ x.1).c s.l.length s.c (O x.1) (ofP ps x.1) (hV'.rd x.1).rdc rfl (by have := hown.rdc; rw [hsl] at this; exact this) (by rw [hsl]) (hV.fit x.1) (fun p hp => by
            obtain ⟨h1, h2⟩ := ofP_mem hp
            have h3 := HX.out.2.2.2.1 p h1
            have h4 := List.all_eq_true.1 HA.out.2.2.1 p.dr (by rw [← HX.out.2.2.2.2.1]; exact List.mem_map.2 ⟨p, h1, rfl⟩)
            unfold rowD at h4
            simp only [Bool.and_eq_true, bne_iff_ne, ne_eq] at h4
            have h5 : ¬ p.amt = -9223372036854775808 := h4.2
            unfold Pst.Ok9 at h3
            unfold amtD
            omega) (by rw [hsl]; have := hV.len_at x.1; have := HX.out.2.2.2.2.2; omega)
          rw [hpd] at hT
          have hns' := hns.kp hk' (by omega) (fun b hb e => by have := hnb2 b hb; omega)
          have hkz' := hk'.size
          obtain ⟨o1, ho1⟩ : ∃ o1, (ms.at_ x.1).A = o1 := ⟨_, rfl⟩
          obtain ⟨o2, ho2⟩ : ∃ o2, (days (O x.1)).length = o2 := ⟨_, rfl⟩
          obtain ⟨o3, ho3⟩ : ∃ o3, (ms.at_ x.1).c = o3 := ⟨_, rfl⟩
          rw [ho1, ho2, ho3] at hlook hT
          unfold Sl.val at hn hen
          generalize s.A = sA at hn hen hT
          generalize s.l.length = sn at hn hen hT
          generalize s.c = sc at hn hen hT
          have HTT := Lib.hid hT
          have HB := Lib.hid (And.intro hns' (And.intro hnk (And.intro hnP (And.intro hnb2 (And.intro (hkk.trans hk' (U := fun k => k = wr.heap.size ∨ k = wr.heap.size + 1) (fun _ _ h => h) (fun _ _ h => .inr h)) (And.intro hR' (And.intro (perm_step hto hperm) (And.intro hnot (And.intro hnw' (And.intro hsub (And.intro hto (And.intro hmeas (And.intro hkey hz3)))))))))))))
          clear hns hnk hnP hnb2 hkk hRg hperm hsub hmeas hns' hR' hnot hnw' hto hpd hown hsl hby' hs hxv hk' ho1 ho2 ho3 hpl hV' hT hkey hrel hnwW
          go_wp2_with fail
          refine HTT.out.mono ?_
          rintro e w4 (⟨hfd, A5, c5, rfl, ho5, hn5, hA5⟩ | ⟨hnf, rfl, hn5⟩)
          · obtain ⟨w6, hput, m6, k6⟩ := run_put (P := Tryd.prog) Tryd.underlying92 Tryd.underlying9 (HB.out.1.new hn5).map x.1 (.slice A5 (days (plusD O R x.1)).length c5)
            have H5 := Lib.hid (And.intro hfd (And.intro ho5 (And.intro hn5 (And.intro hA5 (And.intro m6 k6)))))
            have hz5 := hn5.size
            generalize (days (plusD O R x.1)).length = ld at hput
            clear hfd ho5 hn5 hA5 m6 k6 hn hen hlook d0
            go_wp2_with fail
            have hns4 := HB.out.1.new H5.out.2.2.1
            have hkz6 := H5.out.2.2.2.2.2.size
            have hnxA : ¬ Bk A5 wr.heap.size := fun hb => by have := H5.out.2.2.2.1 _ hb; have := HB.out.1.lt; omega
            have hxn : x.1 ∉ ns.keys := by rw [HB.out.2.1]; exact HB.out.2.2.2.2.2.2.2.1
            have hby6 : ∀ b, b < w'.heap.size → b ≠ wr.heap.size → w6.heap[b]? = w'.heap[b]? := fun b h1 h2 => (H5.out.2.2.2.2.2.block b (by omega) h2).trans (H5.out.2.2.1.block b h1 id)
            have hrn : Rng w6 w.heap.size (wr.heap.size + 1) (t1 ++ t2) := HB.out.2.2.2.2.2.1.keep (hby6 _ (by have := HB.out.2.2.2.2.2.2.2.2.2.2.2.2.2; omega) (by omega)) (hby6 _ (by have := HB.out.2.2.2.2.2.2.2.2.2.2.2.2.2; omega) (by omega))
            refine ⟨Lib.hid ⟨P ++ [x.1], t1 ++ t2, ns.set x.1 ⟨A5, c5, days (plusD O R x.1)⟩, hns4.set x.1 ⟨A5, c5, days (plusD O R x.1)⟩ H5.out.2.2.2.2.1 (Own.kp H5.out.2.1 H5.out.2.2.2.2.2 fun b hb e => hnxA (e ▸ hb)) (fun b hb => .inr fun hm => by have := H5.out.2.2.2.1 b hb; have := HB.out.1.blk_lt b hm; omega) (fun y hy _ b hb => H5.out.2.2.2.2.2.block b (by have := HB.out.1.blk_lt b (mem_blks.2 ⟨y.2, List.mem_map_of_mem (f := (·.2)) hy, hb⟩); omega) fun e => HB.out.1.not_own (mem_blks.2 ⟨y.2, List.mem_map_of_mem (f := (·.2)) hy, e ▸ hb⟩)), by rw [Ms.set_keys, if_neg hxn, HB.out.2.1], fun n hn => ?_, fun b hb => ?_, (HB.out.2.2.2.2.1.trans H5.out.2.2.1 (fun _ _ h => h) (fun _ _ (h : False) => h.elim)).trans H5.out.2.2.2.2.2 (fun _ _ h => h) (fun _ _ h => .inl h), hrn, HB.out.2.2.2.2.2.2.1, fun z hz => HB.out.2.2.2.2.2.2.2.2.2.1 z ?_⟩, ?_⟩
            · rw [Ms.set_at]
              by_cases e : n = x.1
              · rw [if_pos e, e]
                exact ⟨rfl, H5.out.1⟩
              · rw [if_neg e]
                rcases List.mem_append.1 hn with hn | hn
                · exact HB.out.2.2.1 n hn
                · exact absurd (List.mem_singleton.1 hn) e
            · obtain ⟨z, hz, hB⟩ := mem_blks.1 hb
              obtain ⟨y, hy, rfl⟩ := List.mem_map.1 hz
              rcases Ms.mem_set hy with ⟨h1, _⟩ | rfl
              · exact HB.out.2.2.2.1 b (mem_blks.2 ⟨y.2, List.mem_map_of_mem (f := (·.2)) h1, hB⟩)
              · have := H5.out.2.2.2.1 b hB
                omega
            · rw [HB.out.2.2.2.2.2.2.2.2.2.2.1]
              rcases List.mem_append.1 hz with hz | hz
              · exact List.mem_append_left _ hz
              · exact List.mem_append_right _ (List.mem_cons_of_mem _ hz)
            · rw [hrn.leftM, HB.out.2.2.2.2.2.2.2.2.2.2.2.1, HB.out.2.2.2.2.2.2.2.2.2.2.1]
              simp
          · have hE : ¬ okD O R := fun h => hnf (h.2 x.1)
            have HE := Lib.hid (And.intro hE hn5)
            clear hE hnf hn5 hn hen hlook d0
            go_wp2_with fail
            go_ret
            exact ApplyPost9.bad HE.out.1 (by decide) (HB.out.2.2.2.2.2.2.2.2.1.trans HE.out.2 (fun _ _ h => h) (fun _ _ h => h))
end Go.Proofs.YtejmndfdmikfaaaDoor.Kit
