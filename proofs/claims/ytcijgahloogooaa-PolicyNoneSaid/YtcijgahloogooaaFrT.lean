/- The frame, part T: a region that runs in any order, run. -/
import Derived.Test.YtcijgahloogooaaFrS
namespace Go.Proofs.Sg
open Go.RowKit

section
variable {P : Program} {tt : TT} {B : Fr} {w0 : World} {nt : Nat} {kk : K} {ops : Array Oper} {xs : List (Op1 × List Nat × Bool)} {es : List Ev} {bs : List Nat} {s : S}

theorem Rm.congr {M : Mem} {β : Bet} {tm tm' : Tr V} {tmps : Array Value} (h : Rm M β tm tmps) (he : ∀ t, tm'.get t = tm.get t) : Rm M β tm' tmps := fun t v ht => h t v (by rw [← he]; exact ht)

theorem Ctx.n_succ (h : Ctx tt nt kk ops xs es bs s) {i : Nat} {x : Op1 × List Nat × Bool} {e : Ev} (hx : xs[i]? = some x) (he : es[i]? = some e) : (sAt xs es s (i + 1)).n = e.n ∧ (sAt xs es s i).n ≤ e.n := by
  refine ⟨by rw [sAt_succ xs es s i x e hx he]; rfl, (h.fact i x e hx he).2.1⟩

theorem Ctx.at_x (h : Ctx tt nt kk ops xs es bs s) {i : Nat} (hi : i < ops.size) : ∃ x e, xs[i]? = some x ∧ es[i]? = some e := by
  have h1 := h.len
  have h2 := h.elen
  exact ⟨xs[i]'(by omega), es[i]'(by omega), List.getElem?_eq_getElem (by omega), List.getElem?_eq_getElem (by omega)⟩

theorem Ctx.n_mono (h : Ctx tt nt kk ops xs es bs s) {i : Nat} : ∀ (j : Nat), i ≤ j → j ≤ ops.size → (sAt xs es s i).n ≤ (sAt xs es s j).n
  | 0, hij, _ => by obtain rfl : i = 0 := by omega
                    exact Nat.le_refl _
  | j + 1, hij, hj => by
    rcases Nat.lt_or_ge i (j + 1) with hlt | hge
    · obtain ⟨x, e, hx, he⟩ := h.at_x (show j < ops.size by omega)
      obtain ⟨h1, h2⟩ := h.n_succ hx he
      have := h.n_mono (i := i) j (by omega) (by omega)
      omega
    · obtain rfl : i = j + 1 := by omega
      exact Nat.le_refl _

/-- How things stand when some have run. -/
def J (B : Fr) (w0 : World) (M0 : Mem) (β0 : Bet) (nt m : Nat) (xs : List (Op1 × List Nat × Bool)) (es : List Ev) (s : S) (L : Nat → Bool) (a : Act) (w : World) : Prop :=
  ∃ M β, Inv B w0 M β (ov (stUs es) L s.st) (sAt xs es s m).n w ∧
    (∀ id p, β id = some p → (B.lo ≤ id ∧ id < s.n) ∨ ∃ j, j < m ∧ L j = true ∧ (sAt xs es s j).n ≤ id ∧ id < (sAt xs es s (j + 1)).n) ∧
    Rm M β (ov (tmUs xs es) L s.tm) a.tmps ∧ a.tmps.size = nt ∧ a.defers = [] ∧ Mle M0 M ∧ Ble β0 β

theorem stUs_get {j : Nat} {u : List (Nat × Blk)} (h : (stUs es)[j]? = some u) : ∃ e, es[j]? = some e ∧ e.u = u := by
  unfold stUs at h
  rw [List.getElem?_map] at h
  cases he : es[j]? with
  | none => rw [he] at h; cases h
  | some e => rw [he] at h; exact ⟨e, rfl, by simpa using h⟩

theorem tmUs_get {j : Nat} {u : List (Nat × V)} (h : (tmUs xs es)[j]? = some u) : ∃ x e, xs[j]? = some x ∧ es[j]? = some e ∧ upd1 x.1.dst e.v = u := by
  unfold tmUs at h
  rw [List.getElem?_zipWith] at h
  cases hx : xs[j]? with
  | none => rw [hx] at h; cases h
  | some x =>
    cases he : es[j]? with
    | none => rw [hx, he] at h; cases h
    | some e => rw [hx, he] at h; exact ⟨x, e, rfl, rfl, by simpa using h⟩

theorem upd1_keys {d : Option Nat} {v : V} {t : Nat} (h : t ∈ keys (upd1 d v)) : d = some t := by
  cases d with
  | none => simp [upd1, keys] at h
  | some i => simp [upd1, keys] at h; rw [h]

theorem drw_step (htt : TTok P tt) (hk : KOk P kk) (hlo : B.lo ≤ s.n) (h : Ctx tt nt kk ops xs es bs s) {L : Nat → Bool} (hL : ClosedL ops L) {i : Nat} {o : Oper} (ho : ops[i]? = some o) (hi : L i = false) (hons : ∀ e ∈ ons o, L e = true)
    {M0 : Mem} {β0 : Bet} {a : Act} {w : World} (hJ : J B w0 M0 β0 nt ops.size xs es s L a w) {Kt : Act → World → Prop} {Q : Exit → Act → World → Prop} (hK : ∀ a' w', J B w0 M0 β0 nt ops.size xs es s (fun j => j == i || L j) a' w' → Kt a' w') :
    wpOp P ops Q i Kt a w := by
  classical
  have him : i < ops.size := (Array.getElem?_eq_some_iff.1 ho).1
  obtain ⟨x, e, hx, he⟩ := h.at_x him
  have hsl := h.slim i o x ho hx
  obtain ⟨hs1, hs2, hs3, hs4, _⟩ := slimOp_inv hsl
  obtain ⟨hwant, hnle, hkeys, hev⟩ := h.fact i x e hx he
  obtain ⟨hns, _⟩ := h.n_succ hx he
  obtain ⟨M, β, hI, hβ, hr, hsz, hd, hM0, hβ0⟩ := hJ
  have hsn : s.n ≤ (sAt xs es s i).n := by
    have := h.n_mono (i := 0) i (by omega) (by omega)
    rwa [sAt_zero] at this
  have hnN : e.n ≤ (sAt xs es s ops.size).n := by rw [← hns]; exact h.n_mono _ (by omega) (Nat.le_refl _)
  have hlenx : es.length = xs.length := by rw [h.elen, h.len]
  have hix : i ≤ xs.length := by rw [h.len]; omega
  -- what others write
  generalize hC : (fun id : Nat => decide (∃ j ej, Un bs i j ∧ es[j]? = some ej ∧ id ∈ keys ej.u)) = C
  generalize hD : (fun t : Nat => decide (∃ j xj, Un bs i j ∧ xs[j]? = some xj ∧ xj.1.dst = some t)) = D
  have hCt : ∀ id j ej, Un bs i j → es[j]? = some ej → id ∈ keys ej.u → C id = true := fun id j ej h1 h2 h3 => by rw [← hC]; exact decide_eq_true ⟨j, ej, h1, h2, h3⟩
  have hCf : ∀ id, C id = true → ∃ j ej, Un bs i j ∧ es[j]? = some ej ∧ id ∈ keys ej.u := fun id h1 => by rw [← hC] at h1; exact of_decide_eq_true h1
  have hDt : ∀ t j xj, Un bs i j → xs[j]? = some xj → xj.1.dst = some t → D t = true := fun t j xj h1 h2 h3 => by rw [← hD]; exact decide_eq_true ⟨j, xj, h1, h2, h3⟩
  have hDf : ∀ t, D t = true → ∃ j xj, Un bs i j ∧ xs[j]? = some xj ∧ xj.1.dst = some t := fun t h1 => by rw [← hD] at h1; exact of_decide_eq_true h1
  have helen := h.elen
  have hjlt : ∀ j ej, es[j]? = some ej → j < ops.size := fun j ej hj => by have := (List.getElem?_eq_some_iff.1 hj).1; omega
  have hxe : ∀ j ej, es[j]? = some ej → ∃ xj, xs[j]? = some xj := fun j ej hj => by
    obtain ⟨xj, _, h1, _⟩ := h.at_x (hjlt j ej hj)
    exact ⟨xj, h1⟩
  have hex : ∀ j xj, xs[j]? = some xj → ∃ ej, es[j]? = some ej := fun j xj hj => by
    have h1 := (List.getElem?_eq_some_iff.1 hj).1
    have h2 := h.len
    obtain ⟨_, ej, _, h4⟩ := h.at_x (show j < ops.size by omega)
    exact ⟨ej, h4⟩
  have hst : ∀ id, C id = false → (ov (stUs es) L s.st).get id = (sAt xs es s i).st.get id := by
    intro id hc
    rw [(sAt_st xs es s i hlenx hix).1]
    refine ov_congr _ _ _ _ _ id (fun j u hu hid => ?_) rfl
    obtain ⟨ej, hej, rfl⟩ := stUs_get hu
    rcases h.agree hL ho hi hons j (hjlt j ej hej) with hun | heq
    · rw [hCt id j ej hun hej hid] at hc; cases hc
    · exact heq
  have htm : ∀ t, D t = false → (ov (tmUs xs es) L s.tm).get t = (sAt xs es s i).tm.get t := by
    intro t hc
    rw [(sAt_st xs es s i hlenx hix).2]
    refine ov_congr _ _ _ _ _ t (fun j u hu hid => ?_) rfl
    obtain ⟨xj, ej, hxj, hej, rfl⟩ := tmUs_get hu
    rcases h.agree hL ho hi hons j (hjlt j ej hej) with hun | heq
    · rw [hDt t j xj hun hxj (upd1_keys hid)] at hc; cases hc
    · exact heq
  have hlater : ∀ j ej, i < j → es[j]? = some ej → L j = true → Un bs i j := fun j ej hij hej hLj => by
    rcases h.agree hL ho hi hons j (hjlt j ej hej) with hun | heq
    · exact hun
    · rw [hLj] at heq
      have := of_decide_eq_true heq.symm
      omega
  have hLi : (fun j => j == i || L j) i = true := by simp
  have hLne : ∀ j, j ≠ i → (fun j => j == i || L j) j = L j := fun j hj => by simp [hj]
  have hLmono : ∀ j, L j = true → (fun j => j == i || L j) j = true := fun j hj => by simp [hj]
  have hstA : ∀ id, (ov (stUs es) (fun j => j == i || L j) s.st).get id = (putG (ov (stUs es) L s.st) e.u).get id := fun id => by
    refine ov_add (stUs es) L _ s.st i e.u id (by simp [stUs, he]) hi hLi hLne fun j u' hij hu' hLj hid => ?_
    obtain ⟨ej, hej, rfl⟩ := stUs_get hu'
    obtain ⟨xj, hxj⟩ := hxe j ej hej
    exact (h.un (hlater j ej hij hej hLj) hx hxj he hej).2.1 id hid
  have htmA : ∀ t, (ov (tmUs xs es) (fun j => j == i || L j) s.tm).get t = (put (ov (tmUs xs es) L s.tm) x.1.dst e.v).get t := fun t => by
    rw [put_G]
    refine ov_add (tmUs xs es) L _ s.tm i (upd1 x.1.dst e.v) t (by simp [tmUs, List.getElem?_zipWith, hx, he]) hi hLi hLne fun j u' hij hu' hLj hid hid' => ?_
    obtain ⟨xj, ej, hxj, hej, rfl⟩ := tmUs_get hu'
    exact ((h.un (hlater j ej hij hej hLj) hx hxj he hej).1 t (upd1_keys hid')).2 (upd1_keys hid)
  -- the state that the operation sees
  generalize hsX : ({ tm := (sAt xs es s i).tm.mask D, st := (sAt xs es s i).st.mask C, n := (sAt xs es s i).n } : S) = sX
  have hXn : sX.n = (sAt xs es s i).n := by rw [← hsX]
  have hXtm : ∀ t, sX.tm.get t = if D t then none else (sAt xs es s i).tm.get t := fun t => by rw [← hsX]; exact Tr.get_mask _ _ _
  have hXst : ∀ t, sX.st.get t = if C t then none else (sAt xs es s i).st.get t := fun t => by rw [← hsX]; exact Tr.get_mask _ _ _
  have hXstL : ∀ id b, sX.st.get id = some b → C id = false ∧ (ov (stUs es) L s.st).get id = some b := fun id b hb => by
    rw [hXst] at hb
    cases hc : C id with
    | true => rw [hc] at hb; cases hb
    | false => rw [hc] at hb; exact ⟨rfl, by rw [hst id hc]; exact hb⟩
  have hrX : Rm M β sX.tm a.tmps := fun t v ht => by
    rw [hXtm] at ht
    cases hc : D t with
    | true => rw [hc] at ht; cases ht
    | false => rw [hc] at ht; exact hr t v (by rw [htm t hc]; exact ht)
  have hlook : ∀ t, t ∈ x.1.looks → D t = false := fun t ht => by
    cases hc : D t with
    | false => rfl
    | true =>
      obtain ⟨j, xj, hun, hxj, hdj⟩ := hDf t hc
      obtain ⟨ej, hej⟩ := hex j xj hxj
      exact absurd ht ((h.un hun hx hxj he hej).1 t hdj).1
  have hwX : wantedS sX x.1.guard = some e.w := by
    rw [← hwant]
    cases hg : x.1.guard with
    | none => rfl
    | some tb =>
      obtain ⟨t, b⟩ := tb
      simp only [wantedS]
      rw [hXtm, hlook t (by simp [Op1.looks, hg])]
      rfl
  have hw := wanted_ok hsl hrX hwX
  unfold wpOp
  simp only [ho]
  cases hew : e.w with
  | false =>
    rw [hw, hew, if_neg (by simp)]
    rw [hew] at hev
    simp only [Bool.false_eq_true, if_false] at hev
    obtain ⟨hv, hu, _⟩ := hev
    obtain ⟨r1, r2, r3⟩ := rm_put (M := M) (β := β) (v := .tup []) (val := undef) hr hsz hs4 ⟨[], rfl, trivial⟩
    refine hK _ _ ⟨M, β, hI.same (fun id => by rw [hstA, hu]; rfl), fun id p hp => ?_, ?_, r2, by rw [r3]; exact hd, hM0, hβ0⟩
    · exact (hβ id p hp).imp (fun x => x) fun ⟨j, h1, h2, h3⟩ => ⟨j, h1, hLmono j h2, h3⟩
    · refine r1.congr fun t => ?_
      rw [htmA, hv, hs3]
  | true =>
    rw [hw, hew, if_pos rfl]
    rw [hew] at hev
    simp only [if_true] at hev
    refine .inl ?_
    have hcong : evOpU kk sX x.1.ins = some (e.v, e.u, e.n) := by
      rw [← hev]
      refine evOpU_congr hXn ?_ ?_
      · intro y hy
        cases y with
        | t t =>
          simp only [S.rd]
          rw [hXtm, hlook t (by simp only [Op1.looks, List.mem_append]; exact .inl (List.mem_filterMap.2 ⟨.t t, hy, rfl⟩))]
          rfl
        | k _ => rfl
        | f _ => rfl
      · intro hrd y hy id hid
        rw [hXst]
        cases hc : C id with
        | false => rfl
        | true =>
          obtain ⟨j, ej, hun, hej, hidj⟩ := hCf id hc
          obtain ⟨xj, hxj⟩ := hxe j ej hej
          refine absurd hidj ((h.un hun hx hxj he hej).2.2 id ?_)
          unfold rdsE
          rw [hew, hrd]
          exact List.mem_flatMap.2 ⟨y, hy, hid⟩
    generalize hBp : ({ b := B.b, X := fun q => if (∃ id b p, sX.st.get id = some b ∧ b.live = true ∧ β id = some p ∧ p.1 = q) then none else w.heap[q]?, hi := fun id => ∃ p, β id = some p, lo := (sAt xs es s i).n, M0 := M } : Fr) = Bp
    have hBb : Bp.b = B.b := by rw [← hBp]
    have hBX1 : ∀ q, (∃ id b p, sX.st.get id = some b ∧ b.live = true ∧ β id = some p ∧ p.1 = q) → Bp.X q = none := fun q hq => by rw [← hBp]; exact if_pos hq
    have hBX2 : ∀ q, ¬ (∃ id b p, sX.st.get id = some b ∧ b.live = true ∧ β id = some p ∧ p.1 = q) → Bp.X q = w.heap[q]? := fun q hq => by rw [← hBp]; exact if_neg hq
    have hBhi : ∀ id, Bp.hi id = ∃ p, β id = some p := fun id => by rw [← hBp]
    have hBlo : Bp.lo = (sAt xs es s i).n := by rw [← hBp]
    have hBM : Bp.M0 = M := by rw [← hBp]
    have hIX : Inv Bp w0 M β sX.st sX.n w := by
      refine ⟨hI.agree, ?_, ?_, ?_, ?_, ?_, by rw [hBb]; exact hI.below, by rw [hBb]; exact hI.base, ?_, ?_⟩
      · intro id b hb
        exact hI.blk id b (hXstL id b hb).2
      · intro id b p hb hl hp
        obtain ⟨a1, a2, _⟩ := hI.live id b p (hXstL id b hb).2 hl hp
        exact ⟨a1, by rw [hBb]; exact a2, hBX1 _ ⟨id, b, p, hb, hl, hp, rfl⟩⟩
      · intro k l bk bl p q hbk hbl hlk hll hp hq hne
        exact hI.apart k l bk bl p q (hXstL k bk hbk).2 (hXstL l bl hbl).2 hlk hll hp hq hne
      · intro id p hp
        exact .inr (by rw [hBhi]; exact ⟨p, hp⟩)
      · rw [hBlo, hXn]; exact Nat.le_refl _
      · intro q ob hq
        by_cases hown : ∃ id b p, sX.st.get id = some b ∧ b.live = true ∧ β id = some p ∧ p.1 = q
        · rw [hBX1 q hown] at hq; cases hq
        · rw [hBX2 q hown] at hq; exact hq
      · intro b mc hb
        exact .inl (by rw [hBM]; exact hb)
    have hn : ∀ id, sX.n ≤ id → id < e.n → ¬ Bp.hi id := by
      intro id h1 h2 h3
      rw [hBhi] at h3
      rw [hXn] at h1
      obtain ⟨p, hp⟩ := h3
      rcases hβ id p hp with h4 | ⟨j, hj, hLj, h4, h5⟩
      · omega
      · rcases Nat.lt_trichotomy j i with hlt | rfl | hgt
        · have := h.n_mono (i := j + 1) i (by omega) (by omega)
          omega
        · rw [hi] at hLj; cases hLj
        · have := h.n_mono (i := i + 1) j (by omega) (by omega)
          omega
    have hop : OpStep P Bp w0 M β (putAll sX.st e.u) e.n e.v o a w := by
      rcases easy_of hs2 with hz | ⟨f, ys, hf⟩ | ⟨y, ys, hf⟩
      · have hcong' : evIns sX.st.get sX.n sX.rd x.1.ins = some (e.v, e.u, e.n) := by
          generalize x.1.ins = ins at hz hcong
          cases ins <;> first | exact hcong | cases hz
        exact ins_ok htt hIX hn (rd_ok hrX) hs1 hz hcong'
      · rw [hf] at hcong hs1
        obtain ⟨c, k1, k2, k3⟩ := slim_call hs1
        simp only [evOpU] at hcong
        split at hcong
        · cases hcong
        · exact op_call hIX hn (rd_ok hrX) k1 k2 k3 (hk.iso f) hcong
      · rw [hf] at hcong
        cases hcong
    refine hop Kt Q fun val w' M' β' hI' hv hM hβ' => hK _ _ ?_
    have hBXn : ∀ q, Bp.X q = none → B.X q = none := fun q hq => by
      cases hx' : B.X q with
      | none => rfl
      | some ob =>
        have h1 := hI.kept q ob hx'
        by_cases hown : ∃ id b p, sX.st.get id = some b ∧ b.live = true ∧ β id = some p ∧ p.1 = q
        · obtain ⟨id, b, p, h2, h3, h4, rfl⟩ := hown
          have := (hI.live id b p (hXstL id b h2).2 h3 h4).2.2
          rw [hx'] at this; cases this
        · rw [hBX2 q hown, h1] at hq; cases hq
    have hβnew : ∀ id p, β' id = some p → (B.lo ≤ id ∧ id < s.n) ∨ ∃ j, j < ops.size ∧ (fun j => j == i || L j) j = true ∧ (sAt xs es s j).n ≤ id ∧ id < (sAt xs es s (j + 1)).n := by
      intro id p hp
      rcases hI'.low id p hp with h1 | h1
      · rw [hBlo] at h1
        exact .inr ⟨i, him, hLi, h1.1, by rw [hns]; exact h1.2⟩
      · rw [hBhi] at h1
        obtain ⟨p', hp'⟩ := h1
        exact (hβ id p' hp').imp (fun x => x) fun ⟨j, h1, h2, h3⟩ => ⟨j, h1, hLmono j h2, h3⟩
    have hget : ∀ id b, (ov (stUs es) (fun j => j == i || L j) s.st).get id = some b → (putAll sX.st e.u).get id = some b ∨ (C id = true ∧ (ov (stUs es) L s.st).get id = some b) := by
      intro id b hb
      rw [hstA] at hb
      rw [putAll_G]
      by_cases hk : id ∈ keys e.u
      · left
        rw [← hb]
        exact putG_at e.u _ _ id fun hn => absurd hk hn
      · rw [putG_ne e.u _ id hk] at hb ⊢
        cases hc : C id with
        | true => exact .inr ⟨rfl, hb⟩
        | false =>
          left
          rw [hXst, hc, ← hst id hc]
          exact hb
    have hfar : ∀ id b p, C id = true → (ov (stUs es) L s.st).get id = some b → b.live = true → β id = some p → ∃ ob, w.heap[p.1]? = some ob ∧ Bp.X p.1 = some ob := by
      intro id b p hc hb hl hp
      obtain ⟨p', hp', hH⟩ := hI.blk id b hb
      rw [hp] at hp'
      obtain rfl : p = p' := by simpa using hp'
      have hlt := hH.lt hl
      refine ⟨w.heap[p.1], Array.getElem?_eq_getElem hlt, ?_⟩
      rw [hBX2, Array.getElem?_eq_getElem hlt]
      rintro ⟨id2, b2, p2, h2, h3, h4, h5⟩
      obtain ⟨hc2, hb2⟩ := hXstL id2 b2 h2
      exact hI.apart id2 id b2 b p2 p hb2 hb h3 hl h4 hp (fun e => by rw [e, hc] at hc2; cases hc2) h5
    have hsame : ∀ id p p', β id = some p → β' id = some p' → p = p' := fun id p p' h1 h2 => by
      have := hβ' id p h1
      rw [h2] at this
      simpa using this.symm
    refine ⟨M', β', ⟨hI'.agree, ?_, ?_, ?_, ?_, ?_, by rw [← hBb]; exact hI'.below, hI.base, ?_, ?_⟩, hβnew, ?_, ?_⟩
    · intro id b hb
      rcases hget id b hb with h1 | ⟨hc, h1⟩
      · exact hI'.blk id b h1
      · obtain ⟨p, hp, hH⟩ := hI.blk id b h1
        refine ⟨p, hβ' id p hp, hH.keep hM hβ' fun hl ob hob => ?_⟩
        obtain ⟨ob', h2, h3⟩ := hfar id b p hc h1 hl hp
        rw [hob] at h2
        obtain rfl : ob = ob' := by simpa using h2
        exact hI'.kept _ _ h3
    · intro id b p hb hl hp
      rcases hget id b hb with h1 | ⟨hc, h1⟩
      · obtain ⟨a1, a2, a3⟩ := hI'.live id b p h1 hl hp
        exact ⟨a1, by rw [← hBb]; exact a2, hBXn _ a3⟩
      · obtain ⟨p0, hp0, _⟩ := hI.blk id b h1
        obtain rfl := hsame id p0 p hp0 hp
        obtain ⟨a1, a2, a3⟩ := hI.live id b p0 h1 hl hp0
        refine ⟨?_, a2, a3⟩
        cases hm : M' p0.1 with
        | none => rfl
        | some mc =>
          obtain ⟨ob, _, h3⟩ := hfar id b p0 hc h1 hl hp0
          rcases hI'.old _ _ hm with h4 | h4
          · rw [hBM, a1] at h4; cases h4
          · rw [h4.2] at h3; cases h3
    · intro k l bk bl p q hbk hbl hlk hll hp hq hne
      rcases hget k bk hbk with h1 | ⟨hc, h1⟩
      · rcases hget l bl hbl with h2 | ⟨hc2, h2⟩
        · exact hI'.apart k l bk bl p q h1 h2 hlk hll hp hq hne
        · obtain ⟨q0, hq0, _⟩ := hI.blk l bl h2
          obtain rfl := hsame l q0 q hq0 hq
          obtain ⟨ob, _, h3⟩ := hfar l bl q0 hc2 h2 hll hq0
          have h4 := (hI'.live k bk p h1 hlk hp).2.2
          intro e'
          rw [e', h3] at h4
          cases h4
      · obtain ⟨p0, hp0, _⟩ := hI.blk k bk h1
        obtain rfl := hsame k p0 p hp0 hp
        rcases hget l bl hbl with h2 | ⟨hc2, h2⟩
        · obtain ⟨ob, _, h3⟩ := hfar k bk p0 hc h1 hlk hp0
          have h4 := (hI'.live l bl q h2 hll hq).2.2
          intro e'
          rw [← e', h3] at h4
          cases h4
        · obtain ⟨q0, hq0, _⟩ := hI.blk l bl h2
          obtain rfl := hsame l q0 q hq0 hq
          exact hI.apart k l bk bl p0 q0 h1 h2 hlk hll hp0 hq0 hne
    · intro id p hp
      left
      rcases hβnew id p hp with h1 | ⟨j, hj, _, h2, h3⟩
      · exact ⟨h1.1, by omega⟩
      · have k1 := h.n_mono (i := 0) j (by omega) (by omega)
        have k2 := h.n_mono (i := j + 1) ops.size (by omega) (Nat.le_refl _)
        rw [sAt_zero] at k1
        exact ⟨by omega, by omega⟩
    · omega
    · intro q ob hq
      have h1 := hI.kept q ob hq
      refine hI'.kept q ob ?_
      rw [hBX2, h1]
      rintro ⟨id, b, p, h2, h3, h4, rfl⟩
      have := (hI.live id b p (hXstL id b h2).2 h3 h4).2.2
      rw [hq] at this; cases this
    · intro b mc hb
      rcases hI'.old b mc hb with h1 | h1
      · rw [hBM] at h1; exact hI.old b mc h1
      · exact .inr ⟨by rw [← hBb]; exact h1.1, hBXn _ h1.2⟩
    · obtain ⟨r1, r2, r3⟩ := rm_put (M := M') (β := β') (v := e.v) (val := val) (hr.mono hM hβ') hsz hs4 hv
      exact r1.congr fun t => by rw [htmA, hs3]
    · obtain ⟨r1, r2, r3⟩ := rm_put (M := M') (β := β') (v := e.v) (val := val) (hr.mono hM hβ') hsz hs4 hv
      exact ⟨r2, by rw [r3]; exact hd, hM0.trans hM, hβ0.trans hβ'⟩
end
end Go.Proofs.Sg
