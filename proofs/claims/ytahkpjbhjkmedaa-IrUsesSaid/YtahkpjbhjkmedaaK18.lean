/- The abstract layer, part 18: from what an argument reads as to rows; the start of a call. -/
import Derived.Test.YtahkpjbhjkmedaaK17
import Derived.ProofKit
import Derived.SizedLaws
namespace Go.Abs
set_option autoImplicit false
set_option linter.unusedSimpArgs false

/-- The ghost at a call's start: all that is there may be read, and stays. -/
def Gh.start (W : World) (c : Nat) : Gh := ⟨fun _ _ => none, fun _ => none, fun b => (W.heap[b]?).map fun o => (c, o), 0, W⟩
def AS.start (c : Nat) : AS := ⟨fun _ => none, fun _ => none, 0, c⟩

theorem rel_start (W : World) (c d : Nat) : Rel (Gh.start W c) (AS.start d) W := by
  refine ⟨rfl, ?_, ?_, ?_, ?_, ?_, ?_, ?_, ?_, rfl, rfl, rfl⟩
  · intro b c' o h
    simp [Gh.start] at h
    exact h.1
  all_goals simp [Gh.start, AS.start]

theorem below_of_rel {W w' : World} {c : Nat} {G' : Gh} {H' : AS} (hle : (Gh.start W c).le G') (hr : Rel G' H' w') : RowKit.Below W.heap.size W w' := by
  have hb : ∀ k, k < W.heap.size → w'.heap[k]? = W.heap[k]? := fun k hk => by
    have e : (Gh.start W c).ro k = some (c, W.heap[k]) := by simp [Gh.start, hk]
    rw [hr.ro k c _ (hle.ro _ _ e)]; simp [hk]
  refine ⟨?_, ?_, ?_, ?_, hb⟩
  · rw [hr.os, hle.w0]; rfl
  · rw [hr.tape, hle.w0]; rfl
  · rw [hr.out, hle.w0]; rfl
  · rcases Nat.lt_or_ge w'.heap.size W.heap.size with h | h
    · have := hb w'.heap.size h
      rw [Array.getElem?_eq_none (Nat.le_refl _)] at this
      simp [h] at this
    · exact h

/-- Cells that a row stands for. -/
def RepRow (G : Gh) (l : List PV) (cs : List Value) : Prop :=
  l.length = cs.length ∧ (∀ (j : Nat) (p : PV) (v : Value), l[j]? = some p → cs[j]? = some v → Rep G p v) ∧ ∀ (j : Nat) (v : Value), cs[j]? = some v → v.oneCell' = true

theorem RepRow.nil {G : Gh} : RepRow G [] [] := ⟨rfl, fun j p v h => by simp at h, fun j v h => by simp at h⟩
theorem RepRow.one {G : Gh} {p : PV} {v : Value} (h : Rep G p v) (ho : v.oneCell' = true) : RepRow G [p] [v] :=
  ⟨rfl, fun j q u hq hu => by cases j <;> simp at hq hu; subst hq; subst hu; exact h, fun j u hu => by cases j <;> simp at hu; subst hu; exact ho⟩
theorem RepRow.append {G : Gh} {l l' : List PV} {cs cs' : List Value} (h : RepRow G l cs) (h' : RepRow G l' cs') : RepRow G (l ++ l') (cs ++ cs') := by
  obtain ⟨a1, a2, a3⟩ := h
  obtain ⟨b1, b2, b3⟩ := h'
  refine ⟨by simp [a1, b1], fun j p v hp hv => ?_, fun j v hv => ?_⟩
  · rcases Nat.lt_or_ge j l.length with hj | hj
    · rw [List.getElem?_append_left hj] at hp
      rw [List.getElem?_append_left (by omega)] at hv
      exact a2 j p v hp hv
    · rw [List.getElem?_append_right hj] at hp
      rw [List.getElem?_append_right (by omega)] at hv
      rw [← a1] at hv
      exact b2 _ p v hp hv
  · rcases Nat.lt_or_ge j cs.length with hj | hj
    · rw [List.getElem?_append_left hj] at hv; exact a3 j v hv
    · rw [List.getElem?_append_right hj] at hv; exact b3 _ v hv

section
variable {H : Type} {enc : TypeId × Value → H} {P : Program} {W : World} {c : Nat}

/-- What reads at t is one of α, in rows. -/
def Reads (enc : TypeId × Value → H) (P : Program) (W : World) (c : Nat) (t : TypeId) {α : Type} (row : α → List PV) (ok : α → Prop) : Prop :=
  ∀ (fuel : Nat) (cs : List Value) (x : DataW H × List MemPlace), DataW.trod enc P W 0 (fun _ => true) true fuel t cs = some x → (∀ n ∈ x.1.weights P t, n ≤ reachBytes) →
    ∃ a, RepRow (Gh.start W c) (row a) cs ∧ ok a

theorem Reads.map {t : TypeId} {α β : Type} {row : α → List PV} {ok : α → Prop} {row' : β → List PV} {ok' : β → Prop} (h : Reads enc P W c t row ok) (f : α → β) (hr : ∀ a, ok a → row' (f a) = row a) (ho : ∀ a, ok a → ok' (f a)) : Reads enc P W c t row' ok' :=
  fun fuel cs x hx hw => let ⟨a, h1, h2⟩ := h fuel cs x hx hw; ⟨f a, by rw [hr a h2]; exact h1, ho a h2⟩

theorem reads_int {t : TypeId} {k : IntKind} (ht : P.underlying t = some (.int k)) : Reads enc P W c t (fun n : Int => [.val (.int k n)]) (fun n => (Lit.int k n).wf = true) := fun fuel cs x hx _ => by
  cases fuel with
  | zero => simp [DataW.trod] at hx
  | succ m =>
    unfold DataW.trod at hx
    rw [ht] at hx
    split at hx <;> simp_all
    rename_i n _ hk
    subst hk
    obtain ⟨hw, rfl⟩ := hx
    exact ⟨n, .one (.val _) rfl, hw.2⟩

theorem reads_bool {t : TypeId} (ht : P.underlying t = some .bool) : Reads enc P W c t (fun b : Bool => [.val (.bool b)]) (fun _ => True) := fun fuel cs x hx _ => by
  cases fuel with
  | zero => simp [DataW.trod] at hx
  | succ m =>
    unfold DataW.trod at hx
    rw [ht] at hx
    split at hx <;> simp_all
    rename_i b
    cases b
    · exact .inl (.one (.val _) rfl)
    · exact .inr (.one (.val _) rfl)

theorem reads_string {t : TypeId} (ht : P.underlying t = some .string) : Reads enc P W c t (fun s : ByteArray => [.val (.string s)]) (fun s => s.size ≤ reachBytes) := fun fuel cs x hx hw => by
  cases fuel with
  | zero => simp [DataW.trod] at hx
  | succ m =>
    unfold DataW.trod at hx
    rw [ht] at hx
    split at hx <;> simp_all
    rename_i s
    obtain ⟨_, rfl⟩ := hx
    exact ⟨s, .one (.val _) rfl, by simpa [DataW.weights] using hw⟩

theorem reads_float {t : TypeId} {k : FloatKind} (ht : P.underlying t = some (.float k)) : Reads enc P W c t (fun n : Nat => [.val (.float k n)]) (fun n => (Lit.float k n).wf = true) := fun fuel cs x hx _ => by
  cases fuel with
  | zero => simp [DataW.trod] at hx
  | succ m =>
    unfold DataW.trod at hx
    rw [ht] at hx
    split at hx <;> simp_all
    rename_i n _ hk
    subst hk
    obtain ⟨hw, rfl⟩ := hx
    exact ⟨n, .one (.val _) rfl, hw.2⟩

/-- Fields, one behind the other, from a place on. -/
def ReadsF (enc : TypeId × Value → H) (P : Program) (W : World) (c : Nat) (fs : List Field) (o : Nat) {α : Type} (row : α → List PV) (ok : α → Prop) : Prop :=
  ∀ (fuel : Nat) (cs : List Value) (xs : List (DataW H × List MemPlace)), (fs.mapM fun f => DataW.trod enc P W 0 (fun _ => true) true fuel f.type ((cs.drop f.offset).take (P.cellsOf f.type))) = some xs →
    (∀ n ∈ DataW.weightsEach P (fs.map (·.type)) (xs.map (·.1)), n ≤ reachBytes) → cs.length = o + ((fs.map fun f => P.cellsOf f.type).sum) → ∃ a, RepRow (Gh.start W c) (row a) (cs.drop o) ∧ ok a

theorem readsF_nil {o : Nat} : ReadsF enc P W c [] o (fun _ : Unit => []) (fun _ => True) := fun fuel cs xs _ _ hl => ⟨(), by
  rw [List.drop_eq_nil_of_le (by simpa using Nat.le_of_eq hl)]; exact .nil, trivial⟩

theorem readsF_cons {f : Field} {fs : List Field} {o n : Nat} {α β : Type} {row : α → List PV} {ok : α → Prop} {row' : β → List PV} {ok' : β → Prop} (ho : f.offset = o) (hn : P.cellsOf f.type = n)
    (h : Reads enc P W c f.type row ok) (h' : ReadsF enc P W c fs (o + n) row' ok') : ReadsF enc P W c (f :: fs) o (fun x : α × β => row x.1 ++ row' x.2) (fun x => ok x.1 ∧ ok' x.2) := fun fuel cs xs hx hw hl => by
  rw [List.mapM_cons] at hx
  simp only [Option.bind_eq_bind, Option.bind_eq_some_iff, Option.pure_def, Option.some.injEq] at hx
  obtain ⟨y, hy, ys, hys, rfl⟩ := hx
  simp only [List.map_cons, DataW.weightsEach, List.mem_append] at hw
  obtain ⟨a, r1, k1⟩ := h fuel _ y hy fun m hm => hw m (.inl hm)
  simp only [List.map_cons, List.sum_cons, hn] at hl
  obtain ⟨b, r2, k2⟩ := h' fuel cs ys hys (fun m hm => hw m (.inr hm)) (by omega)
  refine ⟨(a, b), ?_, k1, k2⟩
  have e : cs.drop o = (cs.drop o).take n ++ cs.drop (o + n) := by rw [← List.drop_drop, List.take_append_drop]
  rw [e]
  rw [ho, hn] at r1
  exact r1.append r2

theorem reads_struct {t : TypeId} {fs : Array Field} {α : Type} {row : α → List PV} {ok : α → Prop} (ht : P.underlying t = some (.struct fs)) (hs : P.cellsOf t = (fs.toList.map fun f => P.cellsOf f.type).sum) (h : ReadsF enc P W c fs.toList 0 row ok) :
    Reads enc P W c t row ok := fun fuel cs x hx hw => by
  cases fuel with
  | zero => simp [DataW.trod] at hx
  | succ m =>
    unfold DataW.trod at hx
    rw [ht] at hx
    dsimp only at hx
    split at hx
    · rename_i hl
      simp only [Option.map_eq_some_iff] at hx
      obtain ⟨xs, hxs, rfl⟩ := hx
      obtain ⟨a, h1, h2⟩ := h m cs xs hxs (fun n hn => hw n (by simpa [DataW.weights, ht] using hn)) (by omega)
      exact ⟨a, by simpa using h1, h2⟩
    · cases hx

theorem cells?_get {a : Addr} {n : Nat} {cs : List Value} (h : W.cells? 0 a n = some cs) : cs.length = n ∧ ∀ j, j < n → W.cell? (a.add j) = cs[j]? := by
  unfold World.cells? at h
  rw [if_pos (Nat.zero_le _)] at h
  exact ⟨by simpa using mapM_some_length h, fun j hj => mapM_some_get h j j (by simp [hj])⟩

theorem weightsAll_mem {e : TypeId} {n : Nat} : ∀ {ds : List (DataW H)} {d : DataW H}, d ∈ ds → n ∈ d.weights P e → n ∈ DataW.weightsAll P e ds
  | d0 :: ds, d, hd, hn => by
    rw [DataW.weightsAll, List.mem_append]
    rcases List.mem_cons.1 hd with rfl | hd
    · exact .inl hn
    · exact .inr (weightsAll_mem hd hn)

theorem reads_slice {t e : TypeId} {α : Type} {row : α → List PV} {ok : α → Prop} {sz : Nat} (ht : P.underlying t = some (.slice e)) (hsz : P.cellsOf e = sz) (h0 : 0 < sz) (h : Reads enc P W c e row ok) :
    Reads enc P W c t (fun xs : List α => [PV.sl c sz (xs.map row)]) (fun xs => xs.length * P.bytesOf e ≤ reachBytes ∧ ∀ x ∈ xs, ok x) := fun fuel cs x hx hw => by
  rcases DataW.trod_slice ht hx with ⟨rfl, rfl⟩ | ⟨a, len, cap, elems, rest, n, rfl, rfl, rfl, _, hle, hmax, hlen, hel, -, -⟩
  · exact ⟨[], .one .nilSlice rfl, by simp, by simp⟩
  · have hwe : ∀ (i : Nat) (y : DataW H × List MemPlace), elems[i]? = some y → ∀ n ∈ y.1.weights P e, n ≤ reachBytes := fun i y hy n hn => hw n (by
      simp only [DataW.weights, ht, List.mem_cons, List.mem_append]
      exact .inr (.inl (weightsAll_mem (List.mem_map.2 ⟨y, List.mem_of_getElem? hy, rfl⟩) hn)))
    have key : ∀ i, i < len → ∃ (ci : List Value) (x : α), W.cells? 0 (a.add (i * sz)) sz = some ci ∧ RepRow (Gh.start W c) (row x) ci ∧ ok x := fun i hi => by
      have h1 := hel i hi
      rw [hsz] at h1
      cases hc : W.cells? 0 (a.add (i * sz)) sz with
      | none => rw [hc] at h1; simp at h1; omega
      | some ci =>
        rw [hc] at h1
        simp only [Option.bind_some] at h1
        have hi' : i < elems.length := by omega
        rw [List.getElem?_eq_getElem hi'] at h1
        obtain ⟨x, k1, k2⟩ := h n ci _ h1 (hwe i _ (List.getElem?_eq_getElem hi'))
        exact ⟨ci, x, rfl, k1, k2⟩
    have hbytes : len * P.bytesOf e ≤ reachBytes := by
      have := hw ((elems.length + rest.length) * P.bytesOf e) (by simp [DataW.weights, ht])
      refine Nat.le_trans (Nat.mul_le_mul_right _ ?_) this
      omega
    by_cases hz : len = 0
    · subst hz
      exact ⟨[], .one .emptySlice rfl, by simp, by simp⟩
    · have hspot : a = ⟨a.block, a.off, none⟩ := by
        obtain ⟨ci, x, hc, -, -⟩ := key 0 (by omega)
        have := (cells?_get hc).2 0 h0
        simp [Addr.add] at this
        have hlen' := (cells?_get hc).1
        rw [List.getElem?_eq_getElem (by omega)] at this
        unfold World.cell? at this
        split at this
        · split at this
          · cases this
          · rename_i hs
            obtain ⟨b, o, s⟩ := a
            cases s with
            | none => rfl
            | some s => simp at hs
        · cases this
      obtain ⟨b, o, s⟩ := a
      obtain rfl : s = none := by simpa using hspot
      clear hspot
      let ex : Fin len → α := fun i => Classical.choose (Classical.choose_spec (key i.1 i.2))
      have hxs : ∀ i : Fin len, ∃ ci, W.cells? 0 ((⟨b, o, none⟩ : Addr).add (i.1 * sz)) sz = some ci ∧ RepRow (Gh.start W c) (row (ex i)) ci ∧ ok (ex i) := fun i => ⟨_, Classical.choose_spec (Classical.choose_spec (key i.1 i.2))⟩
      refine ⟨List.ofFn ex, ?_, by simpa using hbytes, fun x hx => ?_⟩
      · have hrow : ∀ (i : Nat) (r : List PV), ((List.ofFn ex).map row)[i]? = some r → ∃ hi : i < len, r = row (ex ⟨i, hi⟩) := fun i r hr => by
          rw [List.getElem?_map, List.getElem?_ofFn] at hr
          split at hr
          · rename_i hi; simp at hr; exact ⟨hi, hr.symm⟩
          · simp at hr
        have hcell : ∀ (i : Nat) (r : List PV) (j : Nat) (p : PV), ((List.ofFn ex).map row)[i]? = some r → r[j]? = some p → ∃ v, (Gh.start W c).cell c b (o + i * sz + j) = some v ∧ v.oneCell' = true ∧ Rep (Gh.start W c) p v := fun i r j p hr hp => by
          obtain ⟨hi, rfl⟩ := hrow i r hr
          obtain ⟨ci, hc, ⟨q1, q2, q3⟩, -⟩ := hxs ⟨i, hi⟩
          have hj : j < sz := by
            have := (List.getElem?_eq_some_iff.1 hp).1
            rw [q1, (cells?_get hc).1] at this
            exact this
          have hcj := (cells?_get hc).2 j hj
          have hjl : j < ci.length := by rw [(cells?_get hc).1]; exact hj
          rw [List.getElem?_eq_getElem hjl] at hcj
          refine ⟨ci[j], ?_, q3 j _ (List.getElem?_eq_getElem hjl), q2 j p _ hp (List.getElem?_eq_getElem hjl)⟩
          have e : ((⟨b, o, none⟩ : Addr).add (i * sz)).add j = ⟨b, o + i * sz + j, none⟩ := by
            simp only [Addr.add]; split <;> split <;> simp_all
          rw [e] at hcj
          unfold World.cell? at hcj
          unfold Gh.cell Gh.start
          dsimp only at hcj ⊢
          split at hcj
          · rename_i vs t f hh
            rw [hh]
            simpa using hcj
          · cases hcj
        refine .one ?_ rfl
        have hne : ((List.ofFn ex).map row) ≠ [] := by simp; omega
        rw [show PV.sl c sz ((List.ofFn ex).map row) = .slice c sz ((List.ofFn ex).map row) by cases e : (List.ofFn ex).map row with | nil => exact absurd e hne | cons => rfl]
        have hL : ((List.ofFn ex).map row).length = len := by simp
        conv => rhs; rw [← hL]
        refine .slice (fun i j => ((Gh.start W c).cell c b (o + i * sz + j)).getD undef) (by rw [hL]; exact hle) (fun i r hr => ?_) (fun i r j p hr hp => ?_) (fun i r j p hr hp => ?_) (fun i r j p hr hp => ?_)
        · obtain ⟨hi, rfl⟩ := hrow i r hr
          obtain ⟨ci, hc, ⟨q1, -, -⟩, -⟩ := hxs ⟨i, hi⟩
          rw [q1, (cells?_get hc).1]
        all_goals (obtain ⟨v, e1, e2, e3⟩ := hcell i r j p hr hp; simp [e1, e2, e3])
      · rw [List.mem_ofFn] at hx
        obtain ⟨i, rfl⟩ := hx
        obtain ⟨ci, -, -, h3⟩ := hxs i
        exact h3

end
end Go.Abs
