/- ChainKeeps, as plain Lean: nothing comes from nothing. -/
import Derived.Test.YtgjmfljogaanfaaGreatPRuo
namespace Go.Proofs.YtgjmfljogaanfaaGreat.Pure
open Go.Ev Go.RowKit

theorem and3_bd (a : Int) : 0 ≤ bits .and .i64 a 3 ∧ bits .and .i64 a 3 ≤ 3 := by
  simp only [bits]
  rw [show IntKind.bits .i64 = 64 from rfl]
  have h : (BitVec.ofInt 64 a &&& BitVec.ofInt 64 3).toNat ≤ 3 := by
    rw [BitVec.toNat_and]; exact Nat.le_trans Nat.and_le_right (by decide)
  rw [wrapI64 (by omega) (by omega)]; omega

theorem and1023_bd (a : Int) : 0 ≤ bits .and .i64 a 1023 ∧ bits .and .i64 a 1023 ≤ 1023 := by
  simp only [bits]
  rw [show IntKind.bits .i64 = 64 from rfl]
  have h : (BitVec.ofInt 64 a &&& BitVec.ofInt 64 1023).toNat ≤ 1023 := by
    rw [BitVec.toNat_and]; exact Nat.le_trans Nat.and_le_right (by decide)
  rw [wrapI64 (by omega) (by omega)]; omega

def lgl (a b : Int) : Prop := b = a ∨ (b = 3 ∧ a ≠ 0)

theorem legal9 (N : Nat) {a b : Int} (ha : 0 ≤ a ∧ a ≤ 3) (h : lgl a b) : W.leatref09_Legal N a b = some true := by
  have : a = 0 ∨ a = 1 ∨ a = 2 ∨ a = 3 := by omega
  rcases h with rfl | ⟨rfl, h⟩
  · rcases this with rfl | rfl | rfl | rfl <;> rfl
  · rcases this with rfl | rfl | rfl | rfl
    · exact absurd rfl h
    · rfl
    · rfl
    · rfl

/-- The packets as the law lays them. -/
structure LO (L : List Pk) : Prop where
  sq : ∀ j, j < L.length → Go.Proofs.YtgjmfljogaanfaaGreat.Pure.sq (L.getD j pk0) = (j : Int)
  cd : ∀ p ∈ L, 0 ≤ Go.Proofs.YtgjmfljogaanfaaGreat.Pure.cd p ∧ Go.Proofs.YtgjmfljogaanfaaGreat.Pure.cd p ≤ 3
  key : ∀ p ∈ L, 0 ≤ Go.Proofs.YtgjmfljogaanfaaGreat.Pure.key p ∧ Go.Proofs.YtgjmfljogaanfaaGreat.Pure.key p ≤ 67108864
  srt : Srt L

abbrev kL (t : Int) (hs : List HOP) (A l : List Pk) (i : Int) : (Int × Int × Int × Unit) × List HOP × List Pk × List Pk × Unit := ((t, ((l.length : Int), (i, ()))), (hs, (A, (l, ()))))

theorem getD_app_l {A : List Pk} {p : Pk} {j : Nat} (h : j < A.length) : (A ++ [p]).getD j pk0 = A.getD j pk0 := by
  simp only [List.getD_eq_getElem?_getD, List.getElem?_append_left h]

theorem getD_app_r {A : List Pk} {p : Pk} {j : Nat} (h : j = A.length) : (A ++ [p]).getD j pk0 = p := by
  subst h
  simp [List.getD_eq_getElem?_getD]

theorem lay_loop (N : Nat) (hN : 2000 < N) (hs : List HOP) (l : List Pk) (hl : l.length ≤ 60) :
    ∃ z, (∃ L, z = ((), (hs, (L, ()))) ∧ LO L ∧ L.length = l.length) ∧ iter (W.leatlaw50_ChainKeeps_L5 N) N (kL 0 hs [] l 0) = some z := by
  refine iter_done (fun x => ∃ (i : Nat) (t : Int) (A : List Pk), i ≤ l.length ∧ x = kL t hs A l (i : Int) ∧ LO A ∧ A.length = i ∧ (0 ≤ t ∧ t ≤ 1023 * (i : Int)) ∧ ∀ p ∈ A, key p ≤ t) (fun x => l.length - x.1.2.2.1.toNat) _ ?_ N _ ⟨0, 0, [], by omega, rfl, ⟨fun j h => by simp at h, fun p h => by simp at h, fun p h => by simp at h, by simp [Srt]⟩, rfl, by omega, fun p h => by simp at h⟩ (by simp only [Int.toNat_zero]; omega)
  rintro F _ ⟨i, t, A, hil, rfl, O, hA, ht, hk⟩
  by_cases hc : i < l.length
  · left
    have c0 : (i : Int) < (l.length : Int) := by omega
    have e1 : IntKind.wrap .i64 ((i : Int) + 1) = ((i + 1 : Nat) : Int) := wN (by omega) (by omega)
    have a1 := and1023_bd (l.getD i pk0).2.2.2.2
    have a3 := and3_bd (l.getD i pk0).2.2.2.1
    have e2 : IntKind.wrap .i64 (t + bits .and .i64 (l.getD i pk0).2.2.2.2 1023) = t + bits .and .i64 (l.getD i pk0).2.2.2.2 1023 := wrapI64 (by omega) (by omega)
    have b : (i + 1) * 40 ≤ 140737488355328 := by omega
    refine ⟨kL (t + bits .and .i64 (l.getD i pk0).2.2.2.2 1023) hs (A ++ [((l.getD i pk0).1, ((i : Int), ((l.getD i pk0).2.2.1, (bits .and .i64 (l.getD i pk0).2.2.2.1 3, t + bits .and .i64 (l.getD i pk0).2.2.2.2 1023))))]) l ((i + 1 : Nat) : Int), ⟨i + 1, _, _, by omega, rfl, ?_, by simp [hA], by omega, ?_⟩, by simp only [Int.toNat_natCast]; omega, ?_⟩
    · refine ⟨fun j hj => ?_, fun p hp => ?_, fun p hp => ?_, srt_snoc O.srt fun q hq => ?_⟩
      · simp only [List.length_append, List.length_singleton] at hj
        by_cases hji : j < A.length
        · rw [getD_app_l hji]; exact O.sq j hji
        · rw [getD_app_r (by omega)]; simp only [sq]; omega
      · rcases List.mem_append.1 hp with hp | hp
        · exact O.cd p hp
        · obtain rfl := List.mem_singleton.1 hp; exact a3
      · rcases List.mem_append.1 hp with hp | hp
        · exact O.key p hp
        · obtain rfl := List.mem_singleton.1 hp
          simp only [key]; omega
      · have := hk q hq
        simp only [key] at this ⊢; omega
    · intro p hp
      rcases List.mem_append.1 hp with hp | hp
      · have := hk p hp; omega
      · obtain rfl := List.mem_singleton.1 hp; simp only [key]; omega
    · simp only [W.leatlaw50_ChainKeeps_L5, c0, Int.natCast_nonneg, decide_true, Bool.and_true, cond_true, Int.toNat_natCast, e1, e2, hA, b]
  · right
    have c0 : ¬ (i : Int) < (l.length : Int) := by omega
    refine ⟨_, ⟨A, rfl, O, by omega⟩, ?_⟩
    simp only [W.leatlaw50_ChainKeeps_L5, c0, decide_false, cond_false]

/-- The packet that came in under a number. -/
abbrev xo (L : List Pk) (i : Int) : Pk := L.getD i.toNat pk0

def El (L : List Pk) (i : Int) : Bool := decide (cd (xo L i) = 1)

structure PKl (L : List Pk) (dn : List HOP) (p : Pk) : Prop where
  ok : okP L.length p
  code : lgl (cd (xo L (sq p))) (cd p)
  size : p.2.2.1 = cl (xo L (sq p)).2.2.1 1 65536
  least : min (key (xo L (sq p)) + leastR p.2.2.1 dn) 67108864 ≤ key p
  come : key (xo L (sq p)) ≤ key p

structure RWl (L : List Pk) (k : Nat) (dn : List HOP) (now : List Pk) (j : Nat) (r : PD) : Prop where
  flow : r.1 = (L.getD j pk0).1
  seq : r.2.1 = (j : Int)
  size : r.2.2.1 = cl (L.getD j pk0).2.2.1 1 65536
  code : lgl (cd (L.getD j pk0)) r.2.2.2.1
  came : r.2.2.2.2.1 = key (L.getD j pk0)
  late : key (L.getD j pk0) ≤ r.2.2.2.2.2.1
  lost : 0 ≤ lo r ∧ lo r ≤ (k : Int)
  here : lo r = 0 → ∃ p ∈ now, sq p = (j : Int) ∧ key p = r.2.2.2.2.2.1

structure KV (L : List Pk) (dn : List HOP) (rows : List PD) (now : List Pk) : Prop where
  ri : RI L.length rows now
  pk : ∀ p ∈ now, PKl L dn p
  srt : Srt now
  ord : (es (El L) now).Pairwise (· < ·)
  rw : ∀ j : Nat, j < L.length → RWl L dn.length dn now j (rows.getD j pd0)

theorem leastR_snoc (size : Int) (h : HOP) : ∀ dn : List HOP, leastR size (dn ++ [h]) = leastR size dn + leastH size h
  | [] => by simp [leastR]
  | g :: dn => by simp only [List.cons_append, leastR, leastR_snoc size h dn]; omega

theorem leastR_pos (size : Int) : ∀ dn : List HOP, 0 ≤ leastR size dn
  | [] => Int.le_refl _
  | g :: dn => by
    have := leastR_pos size dn; have := leastH_bd size g
    simp only [leastR]; omega

theorem kl_stays (L : List Pk) (dn : List HOP) : Stays (PKl L dn) (El L) := by
  refine ⟨fun p c h hc => ⟨h.ok, ?_, h.size, h.least, h.come⟩, fun p h he => ?_, fun p h => h.ok.2⟩
  · have := h.code
    simp only [lgl, recode, cd, sq] at this hc ⊢
    omega
  · have h1 : cd (xo L (sq p)) = 1 := of_decide_eq_true he
    have := h.code
    rw [h1] at this
    unfold lgl at this
    unfold isLow
    omega

theorem kl_goes (L : List Pk) (dn : List HOP) (h : HOP) : Goes (PKl L dn) (PKl L (dn ++ [h])) (limH h.1) := ⟨fun p t hp ht => by
  have hs := span_bd (n := p.2.2.1) (limH_ok h.1).r
  have hd := (limH_ok h.1).d
  obtain ⟨⟨o1, o2, o3⟩, c, s, l, m⟩ := hp
  have e : leastR p.2.2.1 (dn ++ [h]) = leastR p.2.2.1 dn + (span p.2.2.1 (limH h.1).1 + (limH h.1).2.1) := leastR_snoc _ _ _
  refine ⟨⟨o1, o2, ?_⟩, c, s, ?_, ?_⟩
  · simp only [arr, key] at o3 ht ⊢; omega
  · simp only [arr, key, sq] at l ht e ⊢
    rw [e]; omega
  · simp only [arr, key, sq] at m o3 ht ⊢
    omega⟩

theorem note_here {k : Int} {p : Pk} : ∀ {l : List Pk} {rows : List PD}, p ∈ l → (∀ i, cnt i l ≤ 1) → SeqIn rows.length l → (note k rows l).getD (sq p).toNat pd0 = rw1 k (rows.getD (sq p).toNat pd0) p
  | [], _, h, _, _ => by simp at h
  | q :: l, rows, h, h1, hs => by
    have hl : ∀ i, cnt i l ≤ 1 := fun i => by have := h1 i; simp only [cnt] at this; omega
    have hsl : SeqIn (note1 k rows q).length l := fun r hr => by rw [note1_length]; exact hs r (List.mem_cons_of_mem _ hr)
    have hq := hs q List.mem_cons_self
    have ef : note k rows (q :: l) = note k (note1 k rows q) l := rfl
    rw [ef]
    by_cases e : q = p
    · subst e
      rw [note_other]
      · exact getD_set_eq (by simp only [sq] at hq; omega) _ _
      · intro r hr e
        have hr0 := hs r (List.mem_cons_of_mem _ hr)
        have er : sq r = sq q := by omega
        have c1 := cnt_mem hr
        have c2 := h1 (sq q)
        have c3 : at1 (sq q) q = 1 := if_pos rfl
        simp only [cnt] at c2
        rw [er] at c1
        omega
    · have hp : p ∈ l := by
        rcases List.mem_cons.1 h with h | h
        · exact absurd h.symm e
        · exact h
      have hp0 := hs p h
      have hne : (q.2.1).toNat ≠ (sq p).toNat := by
        intro hh
        have er : sq q = sq p := by simp only [sq] at hp0 hq ⊢; simp only [sq] at hh; omega
        have c1 := cnt_mem hp
        have c2 := h1 (sq p)
        have c3 : at1 (sq p) q = 1 := if_pos er
        simp only [cnt] at c2
        omega
      rw [note_here hp hl hsl]
      simp only [note1]
      rw [getD_set_ne hne]

theorem getD_mem' {l : List Pk} {i : Int} (h : 0 ≤ i ∧ i < (l.length : Int)) : xo l i ∈ l := getD_mem (by omega)

theorem KV_step {L : List Pk} {dn : List HOP} {rows : List PD} {now : List Pk} (V : KV L dn rows now) (h : HOP) : KV L (dn ++ [h]) (rowsH (dn.length : Int) rows (passH h.2 h.1 now)) (passH h.2 h.1 now).out := by
  have I := V.ri
  have H := hop_keeps (kl_stays L dn) (kl_goes L dn h) h.2 (by have := I.now60; omega) V.pk (List.Pairwise.imp (fun hk _ _ => hk) V.srt)
  have J := RI_step I h.1 h.2 (dn.length : Int)
  obtain ⟨s1, s2, s3, l1, l2⟩ := RI_seq I h.1 h.2
  have c1 : ∀ i, cnt i (passH h.2 h.1 now).out ≤ 1 := fun i => by have := H.cn i; have := I.one i; omega
  have c2 : ∀ i, cnt i (passH h.2 h.1 now).lost ≤ 1 := fun i => by have := H.cn i; have := I.one i; omega
  refine ⟨J, H.out, H.inc, List.Pairwise.sublist H.od V.ord, fun j hj => ?_⟩
  have R := V.rw j hj
  have hjs : ((j : Int)).toNat = j := Int.toNat_natCast j
  have hlen : (dn ++ [h]).length = dn.length + 1 := by simp
  rw [hlen]
  by_cases ho : 1 ≤ cnt (j : Int) (passH h.2 h.1 now).out
  · obtain ⟨p, hp, hpj⟩ := mem_cnt ho
    have e : (rowsH (dn.length : Int) rows (passH h.2 h.1 now)).getD j pd0 = rw1 0 (rows.getD j pd0) p := by
      rw [rowsH, note_other]
      · have := note_here (k := 0) hp c1 s1
        rw [hpj, hjs] at this
        exact this
      · intro q hq e
        have hq0 := s2 q hq
        have er : sq q = (j : Int) := by omega
        have := cnt_mem hq
        rw [er] at this
        have := H.cn (j : Int); have := I.one (j : Int)
        omega
    rw [e]
    have P := H.out p hp
    have x := P.code; have m := P.come
    rw [hpj] at x m
    simp only [xo, hjs] at x m
    exact ⟨R.flow, R.seq, R.size, x, R.came, m, ⟨Int.le_refl _, by simp only [rw1, lo]; omega⟩, fun _ => ⟨p, hp, hpj, rfl⟩⟩
  · by_cases hl : 1 ≤ cnt (j : Int) (passH h.2 h.1 now).lost
    · obtain ⟨p, hp, hpj⟩ := mem_cnt hl
      have e : (rowsH (dn.length : Int) rows (passH h.2 h.1 now)).getD j pd0 = rw1 ((dn.length : Int) + 1) ((note 0 rows (passH h.2 h.1 now).out).getD j pd0) p := by
        have := note_here (k := (dn.length : Int) + 1) (rows := note 0 rows (passH h.2 h.1 now).out) hp c2 (by rw [note_length]; exact s2)
        rw [hpj, hjs] at this
        exact this
      have e2 : (note 0 rows (passH h.2 h.1 now).out).getD j pd0 = rows.getD j pd0 := by
        rw [note_other]
        intro q hq e
        have hq0 := s1 q hq
        have er : sq q = (j : Int) := by omega
        have := cnt_mem hq
        rw [er] at this
        omega
      rw [e, e2]
      have P := H.lost p hp
      have x := P.code; have m := P.come
      rw [hpj] at x m
      simp only [xo, hjs] at x m
      refine ⟨R.flow, R.seq, R.size, x, R.came, m, ⟨by simp only [rw1, lo]; omega, by simp only [rw1, lo]; omega⟩, fun h0 => ?_⟩
      simp only [rw1, lo] at h0
      omega
    · have e : (rowsH (dn.length : Int) rows (passH h.2 h.1 now)).getD j pd0 = rows.getD j pd0 := by
        rw [rowsH, note_other, note_other]
        · intro q hq e
          have hq0 := s1 q hq
          have er : sq q = (j : Int) := by omega
          have := cnt_mem hq
          rw [er] at this
          omega
        · intro q hq e
          have hq0 := s2 q hq
          have er : sq q = (j : Int) := by omega
          have := cnt_mem hq
          rw [er] at this
          omega
      rw [e]
      refine ⟨R.flow, R.seq, R.size, R.code, R.came, R.late, ⟨R.lost.1, by have := R.lost.2; omega⟩, fun h0 => ?_⟩
      obtain ⟨p, hp, hpj, _⟩ := R.here h0
      have := cnt_mem hp
      rw [hpj] at this
      have := H.cn (j : Int)
      omega

theorem KV_run {L : List Pk} : ∀ (hs dn : List HOP) (rows : List PD) (now : List Pk), KV L dn rows now → ∃ now', KV L (dn ++ hs) (runR hs (dn.length : Int) rows now) now'
  | [], dn, rows, now, V => ⟨now, by rw [List.append_nil]; exact V⟩
  | h :: hs, dn, rows, now, V => by
    obtain ⟨now', K⟩ := KV_run hs (dn ++ [h]) _ _ (KV_step V h)
    refine ⟨now', ?_⟩
    have e : ((dn ++ [h]).length : Int) = (dn.length : Int) + 1 := by simp
    rw [e, List.append_assoc] at K
    exact K

theorem mem_num : ∀ {l : List Pk} {k j : Nat}, j < l.length → numP (k + j) (l.getD j pk0) ∈ num k l
  | [], _, _, h => by simp at h
  | p :: l, k, 0, _ => by simp [num]
  | p :: l, k, j + 1, h => by
    have := mem_num (l := l) (k := k + 1) (j := j) (by simpa using h)
    simp only [num, List.getD_cons_succ]
    rw [show k + (j + 1) = k + 1 + j by omega]
    exact List.mem_cons_of_mem _ this

theorem srt_num : ∀ {l : List Pk} {k : Nat}, Srt l → Srt (num k l)
  | [], _, _ => by simp [num, Srt]
  | p :: l, k, h => by
    have h' := List.pairwise_cons.1 h
    refine List.pairwise_cons.2 ⟨fun q hq => ?_, srt_num h'.2⟩
    obtain ⟨i, r, _, _, hr, _, rfl⟩ := num_mem hq
    have := h'.1 r hr
    simp only [numP, key, cl] at this ⊢; omega

theorem sq_num : ∀ (l : List Pk) (k : Nat), ((num k l).map sq).Pairwise (· < ·)
  | [], _ => by simp [num]
  | p :: l, k => by
    simp only [num, List.map_cons]
    refine List.pairwise_cons.2 ⟨fun s hs => ?_, sq_num l (k + 1)⟩
    simp only [List.mem_map] at hs
    obtain ⟨q, hq, rfl⟩ := hs
    obtain ⟨i, r, h1, _, _, _, rfl⟩ := num_mem hq
    simp only [numP, sq]; omega

theorem KV0 {L : List Pk} (O : LO L) (hl : L.length ≤ 60) : KV L [] (L.map row0) (num 0 L) := by
  refine ⟨RI0 L hl, fun q hq => ?_, srt_num O.srt, (sq_num L 0).filter _, fun j hj => ?_⟩
  · have ok := (RI0 L hl).ok q hq
    obtain ⟨i, p, h1, h2, h3, h4, rfl⟩ := num_mem hq
    have hk := O.key p h3
    have e : xo L (sq (numP i p)) = p := by
      simp only [xo, sq, numP, Int.toNat_natCast]
      rw [h4, Nat.sub_zero]
    refine ⟨ok, ?_, ?_, ?_, ?_⟩
    · rw [e]; exact .inl rfl
    · rw [e]; rfl
    · rw [e]; simp only [leastR, numP, key, cl] at hk ⊢; omega
    · rw [e]; simp only [numP, key, cl] at hk ⊢; omega
  · have e : (L.map row0).getD j pd0 = row0 (L.getD j pk0) := by
      simp [List.getD_eq_getElem?_getD, hj]
    have hk := O.key _ (getD_mem hj)
    have hs := O.sq j hj
    have ek : cl (L.getD j pk0).2.2.2.2 0 67108864 = (L.getD j pk0).2.2.2.2 := by simp only [cl, key] at hk ⊢; omega
    rw [e]
    have hm := mem_num (k := 0) hj
    rw [Nat.zero_add] at hm
    exact ⟨rfl, hs, rfl, .inl rfl, ek, by simp only [row0, ek, key]; omega, ⟨Int.le_refl _, Int.le_refl _⟩, fun _ => ⟨_, hm, rfl, rfl⟩⟩

theorem in_order {E : Int → Bool} : ∀ {l : List Pk} {a b : Pk}, Srt l → (es E l).Pairwise (· < ·) → a ∈ l → b ∈ l → E (sq a) = true → E (sq b) = true → sq a < sq b → key a ≤ key b
  | [], _, _, _, _, h, _, _, _, _ => by simp at h
  | q :: l, a, b, hs, ho, ha0, hb0, ea, eb, hlt => by
    have hs' := List.pairwise_cons.1 hs
    have ho2 : (es E l).Pairwise (· < ·) := by
      rw [es_cons] at ho
      exact (List.pairwise_append.1 ho).2.1
    rcases List.mem_cons.1 ha0 with rfl | ha2
    · rcases List.mem_cons.1 hb0 with rfl | hb
      · omega
      · exact hs'.1 b hb
    · rcases List.mem_cons.1 hb0 with rfl | hb
      · rw [es_cons, es_one, if_pos eb] at ho
        have := (List.pairwise_append.1 ho).2.2 (sq b) (by simp) (sq a) (by simp only [es, List.mem_filter, List.mem_map]; exact ⟨⟨a, ha2, rfl⟩, ea⟩)
        omega
      · exact in_order hs'.2 ho2 ha2 hb ea eb hlt

abbrev kR (t : Int) (hs : List HOP) (L : List Pk) (rows : List PD) (i : Int) : (Int × Int × Int × Unit) × List HOP × List Pk × List PD × Unit := ((t, ((rows.length : Int), (i, ()))), (hs, (L, (rows, ()))))

theorem keeps_loop (N : Nat) (hN : 2000 < N) (hs : List HOP) (hh : hs.length ≤ 100) {L : List Pk} (O : LO L) {rows : List PD} {now : List Pk} (V : KV L (hs.take 8) rows now) :
    iter (W.leatlaw50_ChainKeeps_L18 N) N (kR 0 hs L rows 0) = some (.inr ((), ())) := by
  have hlen := V.ri.len; have h60 := V.ri.n60
  refine iter_some (fun x => ∃ (i : Nat) (t : Int), i ≤ L.length ∧ x = kR t hs L rows (i : Int) ∧ (t = 0 ∨ ∃ p ∈ now, sq p < (i : Int) ∧ El L (sq p) = true ∧ key p = t)) (fun x => L.length - x.1.2.2.1.toNat) _ ?_ N _ ⟨0, 0, by omega, rfl, .inl rfl⟩ (by simp only [Int.toNat_zero]; omega)
  rintro F _ ⟨i, t, hil, rfl, hT⟩
  by_cases hc : i < L.length
  · left
    have c0 : (i : Int) < (rows.length : Int) := by omega
    have c1 : (i : Int) < (L.length : Int) := by omega
    have e1 : IntKind.wrap .i64 ((i : Int) + 1) = ((i + 1 : Nat) : Int) := wN (by omega) (by omega)
    have R := V.rw i hc
    have hx := getD_mem hc
    have hk := O.key _ hx
    have hcd := O.cd _ hx
    have ek : cl (L.getD i pk0).2.2.2.2 0 67108864 = (L.getD i pk0).2.2.2.2 := by simp only [cl, key] at hk ⊢; omega
    have r1 := R.flow; have r2 := R.seq; have r3 := R.size; have r4 := legal9 N hcd R.code; have r5 := R.came; have r6 := R.late; have r7 := R.lost; have r8 := R.here
    have h8 : ((hs.take 8).length : Int) = imn (hs.length : Int) 8 := by rw [List.length_take, imn_eq]; omega
    rw [h8] at r7
    simp only [lo] at r7 r8
    simp only [key] at r5 r6 hk
    simp only [cd] at r4
    have d1 : ¬ (rows.getD i pd0).2.2.2.2.2.2 < 0 := by omega
    have d2 : ¬ imn (hs.length : Int) 8 < (rows.getD i pd0).2.2.2.2.2.2 := by omega
    have d3 : ¬ (rows.getD i pd0).2.2.2.2.2.1 < (L.getD i pk0).2.2.2.2 := by omega
    by_cases hl : (0 : Int) < (rows.getD i pd0).2.2.2.2.2.2
    · refine ⟨kR t hs L rows ((i + 1 : Nat) : Int), ⟨i + 1, t, by omega, rfl, ?_⟩, by simp only [Int.toNat_natCast]; omega, ?_⟩
      · rcases hT with hT | ⟨p, hp, h1, h2, h3⟩
        · exact .inl hT
        · exact .inr ⟨p, hp, by omega, h2, h3⟩
      · simp only [W.leatlaw50_ChainKeeps_L18, c0, c1, Int.natCast_nonneg, decide_true, Bool.and_true, cond_true, Int.toNat_natCast, clean_eq, Option.bind_some, cleanP, ek, r1, r2, r3, r4, r5, beq_self_eq_true, Bool.not_true, d1, d2, d3, decide_false, cond_false, hl, e1]
    · obtain ⟨p, hp, hpi, hpk⟩ := r8 (by omega)
      have P := V.pk p hp
      have pl := P.least; have ps := P.size
      rw [hpi] at pl ps
      simp only [xo, Int.toNat_natCast] at pl ps
      rw [hpk, ps] at pl
      have le := ref_Least_eq N hN hs hh (cl (L.getD i pk0).2.2.1 1 65536)
      have lb : ∀ (s : Int) (l : List HOP), leastR s l ≤ 17432577 * (l.length : Int) := by
        intro s l
        induction l with
        | nil => simp [leastR]
        | cons g l ih => have := leastH_bd s g; simp only [leastR, List.length_cons]; omega
      have lb1 := lb (cl (L.getD i pk0).2.2.1 1 65536) (hs.take 8)
      have lb0 := leastR_pos (cl (L.getD i pk0).2.2.1 1 65536) (hs.take 8)
      have l8 : (hs.take 8).length ≤ 8 := by rw [List.length_take]; omega
      have e2 : IntKind.wrap .i64 ((L.getD i pk0).2.2.2.2 + least hs (cl (L.getD i pk0).2.2.1 1 65536)) = (L.getD i pk0).2.2.2.2 + least hs (cl (L.getD i pk0).2.2.1 1 65536) := by
        simp only [least]
        exact wrapI64 (by omega) (by omega)
      have d4 : ¬ (rows.getD i pd0).2.2.2.2.2.1 < imn ((L.getD i pk0).2.2.2.2 + least hs (cl (L.getD i pk0).2.2.1 1 65536)) 67108864 := by
        simp only [imn_eq, least, key] at pl ⊢; omega
      by_cases hE : (L.getD i pk0).2.2.2.1 = 1
      · have Ei : El L (sq p) = true := by
          rw [hpi]; simp only [El, xo, Int.toNat_natCast, cd, hE, decide_true]
        have d5 : ¬ (rows.getD i pd0).2.2.2.2.2.1 < t := by
          rcases hT with hT | ⟨q, hq, h1, h2, h3⟩
          · omega
          · have := in_order V.srt V.ord hq hp h2 Ei (by omega)
            omega
        rw [hE] at r4
        refine ⟨kR (rows.getD i pd0).2.2.2.2.2.1 hs L rows ((i + 1 : Nat) : Int), ⟨i + 1, _, by omega, rfl, .inr ⟨p, hp, by omega, Ei, hpk⟩⟩, by simp only [Int.toNat_natCast]; omega, ?_⟩
        simp only [W.leatlaw50_ChainKeeps_L18, c0, c1, Int.natCast_nonneg, decide_true, Bool.and_true, cond_true, Int.toNat_natCast, clean_eq, Option.bind_some, cleanP, ek, r1, r2, r3, r4, r5, beq_self_eq_true, Bool.not_true, d1, d2, d3, decide_false, cond_false, hl, e1, le, e2, d4, hE, d5]
      · have bE : ((L.getD i pk0).2.2.2.1 == 1) = false := by simpa using hE
        refine ⟨kR t hs L rows ((i + 1 : Nat) : Int), ⟨i + 1, t, by omega, rfl, ?_⟩, by simp only [Int.toNat_natCast]; omega, ?_⟩
        · rcases hT with hT | ⟨p, hp, h1, h2, h3⟩
          · exact .inl hT
          · exact .inr ⟨p, hp, by omega, h2, h3⟩
        · simp only [W.leatlaw50_ChainKeeps_L18, c0, c1, Int.natCast_nonneg, decide_true, Bool.and_true, cond_true, Int.toNat_natCast, clean_eq, Option.bind_some, cleanP, ek, r1, r2, r3, r4, r5, beq_self_eq_true, Bool.not_true, d1, d2, d3, decide_false, cond_false, hl, e1, le, e2, d4, bE]
  · right
    have c0 : ¬ (i : Int) < (rows.length : Int) := by omega
    simp only [W.leatlaw50_ChainKeeps_L18, c0, decide_false, cond_false]

theorem ChainKeeps_i (N : Nat) (hN : vast < N) (hw : W.leatlaw50_works N = some true) (a0 : List HOP) (a1 : List Pk) (hd : ∀ h ∈ a0, ∀ d ∈ h.2, 0 ≤ d ∧ d ≤ 4294967295) : W.leatlaw50_ChainKeeps N a0 a1 = some true := by
  have hN' := hN
  simp only [vast] at hN'
  have hfl := few_len a0
  have hcl : (cutP a1).length ≤ 60 := cut60 a1
  obtain ⟨z, ⟨L, rfl, O, hL⟩, e0⟩ := lay_loop N (by omega) (fewH a0) (cutP a1) hcl
  have e1 := chain_Run_eq N hN (fewH a0) (few_dok hd) (by omega) L (by omega)
  have hr := runs_length (fewH a0) L
  obtain ⟨now, V⟩ := KV_run ((fewH a0).take 8) [] _ _ (KV0 O (by omega))
  rw [List.nil_append] at V
  have e2 := keeps_loop N (by omega) (fewH a0) (by omega) O V
  have eR : runR ((fewH a0).take 8) ((([] : List HOP).length : Nat) : Int) (L.map row0) (num 0 L) = runs (fewH a0) L := rfl
  rw [eR] at e2
  simp only [W.leatlaw50_ChainKeeps, few_eq N (by omega), Option.bind_some, e0, e1, hr, beq_self_eq_true, Bool.not_true, cond_false]
  rw [← hr]
  simp only [e2, Option.bind_some, hw]

theorem ChainKeeps (x : RT [.mix 26 120 [.int .i64, .int .i64, .int .i64, .int .i64, .int .i64, .int .i64, .int .i64, .int .i64, .int .i64, .int .i64] [.int .u32], .row 38 [.int .i64, .int .i64, .int .i64, .int .i64, .int .i64]]) (h : RT.wf _ x) : ∃ N, uncR [.mix 26 120 [.int .i64, .int .i64, .int .i64, .int .i64, .int .i64, .int .i64, .int .i64, .int .i64, .int .i64, .int .i64] [.int .u32], .row 38 [.int .i64, .int .i64, .int .i64, .int .i64, .int .i64]] (W.leatlaw50_ChainKeeps N) x = some true :=
  ⟨100000000001, ChainKeeps_i 100000000001 (by simp only [vast]; omega) works_vast x.1 x.2 fun g hg d hd => u32_range ((h.1.2 g hg).2.2 d hd)⟩

end Go.Proofs.YtgjmfljogaanfaaGreat.Pure
