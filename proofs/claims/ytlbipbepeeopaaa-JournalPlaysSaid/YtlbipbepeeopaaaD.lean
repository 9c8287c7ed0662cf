/- What a law's arguments read as, in plain words. -/
import Derived.Test.YtlbipbepeeopaaaM
import Derived.WalkKit
import Derived.ProofKit
import Derived.OpenShut
import Derived.ShutString
import Derived.ChangeOld
import Derived.Below
import Derived.SizedLaws
set_option linter.unusedVariables false
set_option linter.unusedSimpArgs false
namespace Go.Proofs.YtlbipbepeeopaaaV
open Go

/-- All that reads as a value of the type t has these cells, and holds so. -/
def Opens (P : Program) (w : World) (t : TypeId) {α : Type} (dec : α → List Value) (Ok : α → Prop) : Prop :=
  ∀ (H : Type) (enc : TypeId × Value → H) (fuel : Nat) (cs : List Value) (x : DataW H × List MemPlace), DataW.trod enc P w 0 (fun _ => true) true fuel t cs = some x →
    (∀ n ∈ x.1.weights P t, n ≤ reachBytes) → ∃ a, cs = dec a ∧ Ok a

theorem Opens.map {P : Program} {w : World} {t : TypeId} {α β : Type} {dec : α → List Value} {Ok : α → Prop} {dec' : β → List Value} {Ok' : β → Prop} (h : Opens P w t dec Ok) (g : α → β)
    (hg : ∀ a, Ok a → dec a = dec' (g a) ∧ Ok' (g a)) : Opens P w t dec' Ok' := by
  intro H enc fuel cs x hx hw
  obtain ⟨a, hc, ho⟩ := h H enc fuel cs x hx hw
  exact ⟨g a, hc.trans (hg a ho).1, (hg a ho).2⟩

theorem opens_int {P : Program} {w : World} {t : TypeId} {k : IntKind} (ht : P.underlying t = some (.int k)) : Opens P w t (fun n : Int => [.int k n]) (fun n => k.min ≤ n ∧ n ≤ k.max) := by
  intro H enc fuel cs x hx hw
  cases fuel with
  | zero => simp [DataW.trod] at hx
  | succ n =>
    unfold DataW.trod at hx
    rw [ht] at hx
    split at hx <;> simp_all
    obtain ⟨⟨rfl, h2⟩, _⟩ := hx
    simpa [Lit.wf] using h2

theorem opens_bool {P : Program} {w : World} {t : TypeId} (ht : P.underlying t = some .bool) : Opens P w t (fun n : Bool => [.bool n]) (fun _ => True) := by
  intro H enc fuel cs x hx hw
  cases fuel with
  | zero => simp [DataW.trod] at hx
  | succ n =>
    unfold DataW.trod at hx
    rw [ht] at hx
    split at hx <;> simp_all

theorem opens_str {P : Program} {w : World} {t : TypeId} (ht : P.underlying t = some .string) : Opens P w t (fun s : ByteArray => [.string s]) (fun s => s.size ≤ 140737488351232) := by
  intro H enc fuel cs x hx hw
  cases fuel with
  | zero => simp [DataW.trod] at hx
  | succ n =>
    unfold DataW.trod at hx
    rw [ht] at hx
    split at hx <;> simp_all
    obtain ⟨h2, rfl⟩ := hx
    have := hw _ (by simp only [DataW.weights]; exact List.mem_singleton.2 rfl)
    simp only [Array.length_toList, reachBytes] at this
    exact this

theorem weightsAll_mem {H : Type} {P : Program} {e : TypeId} : ∀ {ds : List (DataW H)} {d : DataW H} {n : Nat}, d ∈ ds → n ∈ d.weights P e → n ∈ DataW.weightsAll P e ds
  | d0 :: ds, d, n, hd, hn => by
    simp only [DataW.weightsAll, List.mem_append]
    rcases List.mem_cons.1 hd with rfl | h
    · exact .inl hn
    · exact .inr (weightsAll_mem h hn)

/-- What elements read as, one behind the other. -/
theorem opens_elems {P : Program} {w : World} {e : TypeId} {α : Type} {dec : α → List Value} {Ok : α → Prop} (he : Opens P w e dec Ok) {H : Type} {enc : TypeId × Value → H} {fuel : Nat} {sz : Nat} :
    ∀ {len : Nat} {css : Nat → List Value} {elems : List (DataW H × List MemPlace)}, elems.length = len → (∀ i, i < len → (css i).length = sz ∧ ∃ y, elems[i]? = some y ∧ DataW.trod enc P w 0 (fun _ => true) true fuel e (css i) = some y) →
      (∀ y ∈ elems, ∀ n ∈ y.1.weights P e, n ≤ reachBytes) → ∃ l : List α, l.length = len ∧ (∀ a ∈ l, Ok a ∧ (dec a).length = sz) ∧ ∀ i a, l[i]? = some a → css i = dec a
  | 0, css, elems, hl, h, hw => ⟨[], rfl, by simp, by simp⟩
  | len + 1, css, elems, hl, h, hw => by
    obtain ⟨hc0, y0, hy0, ht0⟩ := h 0 (by omega)
    cases elems with
    | nil => simp at hl
    | cons z r =>
      obtain rfl : z = y0 := by simpa using hy0
      obtain ⟨a, ha, ho⟩ := he H enc fuel _ _ ht0 (hw z (by simp))
      obtain ⟨l, h1, h2, h3⟩ := opens_elems (len := len) (css := fun i => css (i + 1)) (elems := r) he (by simpa using hl) (fun i hi => by
        obtain ⟨hc, y, hy, ht⟩ := h (i + 1) (by omega)
        exact ⟨hc, y, by simpa using hy, ht⟩) (fun y hy => hw y (by simp [hy]))
      refine ⟨a :: l, by simp [h1], ?_, ?_⟩
      · intro b hb
        rcases List.mem_cons.1 hb with rfl | hb
        · exact ⟨ho, by rw [← ha]; exact hc0⟩
        · exact h2 b hb
      · intro i b hb
        cases i with
        | zero => simp only [List.getElem?_cons_zero, Option.some.injEq] at hb; subst hb; exact ha
        | succ i => simp only [List.getElem?_cons_succ] at hb; exact h3 i b hb

theorem flatMap_get {α β : Type} {f : α → List β} {sz : Nat} : ∀ {l : List α}, (∀ a ∈ l, (f a).length = sz) → ∀ {j : Nat} {v : β}, (l.flatMap f)[j]? = some v → ∃ i a k, l[i]? = some a ∧ (f a)[k]? = some v ∧ j = i * sz + k ∧ k < sz
  | [], _, j, v, h => by simp at h
  | a :: r, hl, j, v, h => by
    have ha := hl a (by simp)
    rw [List.flatMap_cons] at h
    by_cases hj : j < sz
    · rw [List.getElem?_append_left (by omega)] at h
      exact ⟨0, a, j, rfl, h, by omega, hj⟩
    · rw [List.getElem?_append_right (by omega), ha] at h
      obtain ⟨i, b, k, h1, h2, h3, h4⟩ := flatMap_get (l := r) (fun x hx => hl x (by simp [hx])) h
      exact ⟨i + 1, b, k, by simpa using h1, h2, by rw [Nat.add_mul]; omega, h4⟩
theorem flatMap_len {α β : Type} {f : α → List β} {sz : Nat} : ∀ {l : List α}, (∀ a ∈ l, (f a).length = sz) → (l.flatMap f).length = l.length * sz
  | [], _ => by simp
  | a :: r, hl => by
    rw [List.flatMap_cons, List.length_append, hl a (by simp), flatMap_len (fun x hx => hl x (by simp [hx])), List.length_cons, Nat.add_mul]; omega
theorem flatMap_at {α β : Type} {f : α → List β} {sz : Nat} : ∀ {l : List α}, (∀ a ∈ l, (f a).length = sz) → ∀ {i k : Nat} {a : α} {v : β}, l[i]? = some a → (f a)[k]? = some v → (l.flatMap f)[i * sz + k]? = some v
  | [], _, i, k, a, v, h, _ => by simp at h
  | b :: r, hl, i, k, a, v, h, hk => by
    have hb := hl b (by simp)
    rw [List.flatMap_cons]
    cases i with
    | zero =>
      simp only [List.getElem?_cons_zero, Option.some.injEq] at h
      subst h
      have := (List.getElem?_eq_some_iff.1 hk).1
      rw [List.getElem?_append_left (by omega)]
      simpa using hk
    | succ i =>
      simp only [List.getElem?_cons_succ] at h
      rw [List.getElem?_append_right (by rw [Nat.add_mul]; omega), hb, show (i + 1) * sz + k - sz = i * sz + k by rw [Nat.add_mul]; omega]
      exact flatMap_at (fun x hx => hl x (by simp [hx])) h hk

/-- A slice of elements that read so. -/
structure HasL {α : Type} (w : World) (s : Sl) (sz : Nat) (dec : α → List Value) (l : List α) : Prop where
  has : Has w s sz (l.flatMap dec)
  len : l.length = s.l
  each : ∀ a ∈ l, (dec a).length = sz
theorem HasL.mod {α : Type} {F : Nat → Prop} {w w' : World} {s : Sl} {sz : Nat} {dec : α → List Value} {l : List α} (h : HasL w s sz dec l) (hm : Frm F w w') (hn : ∀ b, s.blk = some b → ¬ F b) : HasL w' s sz dec l := ⟨h.has.mod hm hn, h.len, h.each⟩
theorem HasL.drew {α : Type} {w : World} {s : Sl} {sz : Nat} {dec : α → List Value} {l : List α} (h : HasL w s sz dec l) : HasL w.drew s sz dec l := ⟨h.has.drew, h.len, h.each⟩
/-- The element at a place: its cells, one by one and whole. -/
theorem HasL.at {α : Type} {w : World} {s : Sl} {sz : Nat} {dec : α → List Value} {l : List α} (h : HasL w s sz dec l) (hsz : 0 < sz) {i : Int} (h0 : 0 ≤ i) (h1 : i < s.l) :
    ∃ p a, s.a = some p ∧ l[i.toNat]? = some a ∧ a ∈ l ∧ (∀ k v, (dec a)[k]? = some v → Ld w ((p.add (i.toNat * sz)).add k) v) ∧ LdA w (p.add (i.toNat * sz)) sz (dec a).toArray := by
  have hl := h.len
  have hi : i.toNat < l.length := by omega
  have ha : l[i.toNat]? = some l[i.toNat] := by simp [hi]
  have hd := h.each l[i.toNat] (by simp)
  obtain ⟨p, hp, _⟩ := h.has.get (i.toNat * sz + 0) _ (flatMap_at h.each ha (show (dec l[i.toNat])[0]? = some (dec l[i.toNat])[0] by simp [hd, hsz]))
  have key : ∀ k v, (dec l[i.toNat])[k]? = some v → Ld w ((p.add (i.toNat * sz)).add k) v := by
    intro k v hk
    obtain ⟨p', hp', hc⟩ := h.has.get _ _ (flatMap_at h.each ha hk)
    rw [hp] at hp'; cases hp'
    rw [add_add]
    exact hc
  exact ⟨p, _, hp, ha, by simp, key, by simpa using hd, fun j u hu => key j u (by simpa using hu)⟩

theorem opens_slice {P : Program} {w : World} {t e : TypeId} {sz bytes : Nat} {α : Type} {dec : α → List Value} {Ok : α → Prop} (ht : P.underlying t = some (.slice e)) (hc : P.cellsOf e = sz) (hb : P.bytesOf e = bytes) (he : Opens P w e dec Ok) :
    Opens P w t (fun p : Sl × List α => [.slice p.1.a p.1.l p.1.c]) (fun p => HasL w p.1 sz dec p.2 ∧ (∀ a ∈ p.2, Ok a) ∧ p.1.l ≤ p.1.c ∧ p.1.c ≤ maxLen ∧ p.1.c * bytes ≤ 140737488351232) := by
  intro H enc fuel cs x hx hw
  rcases DataW.trod_slice ht hx with ⟨rfl, rfl⟩ | ⟨a, len, cap, elems, rest, n, _, rfl, rfl, _, hl, hm, hlen, hel, hsp, _⟩
  · exact ⟨(⟨Option.none, 0, 0⟩, []), rfl, ⟨Has.nil _ _ _ rfl, rfl, by simp⟩, by simp, Nat.le_refl _, Nat.zero_le _, by simp⟩
  · have hrest := (hsp rfl).1
    have hsz : (elems.length + rest.length) * P.bytesOf e ≤ reachBytes := by
      have := hw ((elems.length + rest.length) * P.bytesOf e) (by simp [DataW.weights, ht])
      exact this
    have hcs : ∀ i, i < len → ∃ ec, w.cells? 0 (a.add (i * sz)) sz = some ec ∧ ∃ y, elems[i]? = some y ∧ DataW.trod enc P w 0 (fun _ => true) true n e ec = some y := by
      intro i hi
      have h1 := hel i hi
      have hy : elems[i]? = some (elems[i]'(by omega)) := by simp [hlen, hi]
      rw [hy, Option.bind_eq_some_iff] at h1
      obtain ⟨ec, h2, h3⟩ := h1
      rw [hc] at h2
      exact ⟨ec, h2, _, hy, h3⟩
    obtain ⟨l, h1, h2, h3⟩ := opens_elems (len := len) (css := fun i => (w.cells? 0 (a.add (i * sz)) sz).getD []) (elems := elems) (sz := sz) he hlen (fun i hi => by
      obtain ⟨ec, h1, y, hy, ht⟩ := hcs i hi
      simp only [h1, Option.getD_some]
      exact ⟨(World.cells?_some h1).2.1, y, hy, ht⟩) (fun y hy k hk => hw k (by
        simp only [DataW.weights, ht]
        exact List.mem_cons_of_mem _ (List.mem_append_left _ (weightsAll_mem (List.mem_map_of_mem hy) hk))))
    refine ⟨(⟨some a, len, cap⟩, l), rfl, ⟨⟨?_, ?_⟩, h1, fun b hb => (h2 b hb).2⟩, fun b hb => (h2 b hb).1, hl, hm, ?_⟩
    · show (l.flatMap dec).length = len * sz
      rw [flatMap_len (fun b hb => (h2 b hb).2), h1]
    · intro j v hv
      obtain ⟨i, b, k, hb, hk, rfl, hks⟩ := flatMap_get (fun b hb => (h2 b hb).2) hv
      have hi : i < len := by have := (List.getElem?_eq_some_iff.1 hb).1; omega
      refine ⟨a, rfl, ?_⟩
      obtain ⟨ec, he1, _⟩ := hcs i hi
      have := h3 i b hb
      simp only [he1, Option.getD_some] at this
      subst this
      have h5 := (World.cells?_some he1).2.2 k hks
      rw [hk, add_add] at h5
      exact h5
    · rw [hlen, hrest, hb] at hsz
      simp only [reachBytes] at hsz
      have : len + (cap - len) = cap := by omega
      rw [this] at hsz
      exact hsz

/-- Fields one behind the other, from the place o on. -/
def OpensF (P : Program) (w : World) (o : Nat) (fs : List Field) {α : Type} (dec : α → List Value) (Ok : α → Prop) : Prop :=
  ∀ (H : Type) (enc : TypeId × Value → H) (fuel : Nat) (cs : List Value) (xs : List (DataW H × List MemPlace)), xs.length = fs.length →
    (∀ (i : Nat) (f : Field), fs[i]? = some f → DataW.trod enc P w 0 (fun _ => true) true fuel f.type ((cs.drop f.offset).take (P.cellsOf f.type)) = xs[i]?) →
    (∀ n ∈ DataW.weightsEach P (fs.map (·.type)) (xs.map (·.1)), n ≤ reachBytes) → ∃ a, (cs.drop o).take (fs.foldr (fun f n => P.cellsOf f.type + n) 0) = dec a ∧ Ok a
theorem opensF_nil {P : Program} {w : World} {o : Nat} : OpensF P w o [] (fun _ : Unit => []) (fun _ => True) := fun H enc fuel cs xs _ _ _ => ⟨(), by simp, trivial⟩
theorem opensF_cons {P : Program} {w : World} {o sz : Nat} {f : Field} {fs : List Field} {α β : Type} {dec : α → List Value} {Ok : α → Prop} {dec' : β → List Value} {Ok' : β → Prop} (ho : f.offset = o) (hs : P.cellsOf f.type = sz)
    (h1 : Opens P w f.type dec Ok) (h2 : OpensF P w (o + sz) fs dec' Ok') : OpensF P w o (f :: fs) (fun p : α × β => dec p.1 ++ dec' p.2) (fun p => Ok p.1 ∧ Ok' p.2) := by
  intro H enc fuel cs xs hl hx hw
  cases xs with
  | nil => simp at hl
  | cons x r =>
    have hx0 := hx 0 f rfl
    simp only [List.getElem?_cons_zero] at hx0
    obtain ⟨a, ha, hoa⟩ := h1 H enc fuel _ _ hx0 (fun n hn => hw n (by simp only [List.map_cons, DataW.weightsEach, List.mem_append]; exact .inl hn))
    obtain ⟨b, hb, hob⟩ := h2 H enc fuel cs r (by simpa using hl) (fun i g hg => by simpa using hx (i + 1) g (by simpa using hg)) (fun n hn => hw n (by simp only [List.map_cons, DataW.weightsEach, List.mem_append]; exact .inr hn))
    refine ⟨(a, b), ?_, hoa, hob⟩
    rw [ho, hs] at ha
    simp only [List.foldr_cons, hs]
    rw [List.take_add, List.drop_drop, ha, hb]
theorem opens_struct {P : Program} {w : World} {t : TypeId} {fs : Array Field} {α : Type} {dec : α → List Value} {Ok : α → Prop} (ht : P.underlying t = some (.struct fs)) (hc : P.cellsOf t = fs.toList.foldr (fun f n => P.cellsOf f.type + n) 0)
    (h : OpensF P w 0 fs.toList dec Ok) : Opens P w t dec Ok := by
  intro H enc fuel cs x hx hw
  obtain ⟨xs, n, _, rfl, hl, hlen, hf⟩ := DataW.trod_struct ht hx
  obtain ⟨a, ha, ho⟩ := h H enc n cs xs (by simpa using hlen) (fun i f hfi => hf i f (by simpa using hfi)) (fun k hk => hw k (by simpa [DataW.weights, ht] using hk))
  refine ⟨a, ?_, ho⟩
  rw [← hc, List.drop_zero, ← hl, List.take_length] at ha
  exact ha

/-- An argument of a law, read: out of its reading and the sizes of all arguments. -/
theorem Opens.arg {P : Program} {w : World} {t : TypeId} {α : Type} {dec : α → List Value} {Ok : α → Prop} (h : Opens P w t dec Ok) {H : Type} {enc : TypeId × Value → H} {v : Value} {d : DataW H} {ps : List MemPlace}
    (hd : DataW.Trod enc P w 0 (fun _ => true) true t v d ps) {ts : List TypeId} {ds : List (DataW H)} (hsz : (DataW.weightsEach P ts ds).all (· ≤ reachBytes) = true) {j : Nat} (hj : ts[j]? = some t) (hdj : ds[j]? = some d) :
    ∃ a, v.cells.toList = dec a ∧ Ok a := by
  obtain ⟨fuel, hf⟩ := hd
  refine h H enc fuel _ _ hf (fun n hn => ?_)
  have := List.all_eq_true.1 hsz _ (DataW.weights_mem_each hj hdj n hn)
  simpa using this
theorem cells_one {v u : Value} (hu : u.cells.toList = [u]) (h : v.cells.toList = [u]) (hv : ∀ cs, v ≠ .agg cs) (hv' : ∀ cs, v ≠ .tuple cs) : v = u := by
  cases v <;> simp_all [Value.cells]
theorem opens_byte {P : Program} {w : World} {t : TypeId} (ht : P.underlying t = some (.int .u8)) : Opens P w t (fun b : UInt8 => [.int .u8 (b.toNat : Int)]) (fun _ => True) :=
  (opens_int ht).map (fun n => UInt8.ofNat n.toNat) fun n hn => by
    have h1 : IntKind.min .u8 = 0 := by decide
    have h2 : IntKind.max .u8 = 255 := by decide
    rw [h1, h2] at hn
    refine ⟨?_, trivial⟩
    have : ((UInt8.ofNat n.toNat).toNat : Int) = n := by
      rw [UInt8.toNat_ofNat']; omega
    rw [this]
theorem HasL.bytes {w : World} {s : Sl} {l : List UInt8} (h : HasL w s 1 (fun b : UInt8 => [Value.int .u8 (b.toNat : Int)]) l) : Has w s 1 (bv l) := by
  have := h.has
  have e : (l.flatMap fun b : UInt8 => [Value.int .u8 (b.toNat : Int)]) = bv l := by
    clear this h; unfold bv; induction l with
    | nil => rfl
    | cons b r ih => simp [List.flatMap_cons, ih]
  rwa [e] at this
theorem HasL.one {α : Type} {f : α → Value} {w : World} {s : Sl} {l : List α} (h : HasL w s 1 (fun b : α => [f b]) l) : Has w s 1 (l.map f) := by
  have := h.has
  have e : (l.flatMap fun b : α => [f b]) = l.map f := by
    clear this h
    induction l with
    | nil => rfl
    | cons b r ih => simp [List.flatMap_cons, ih]
  rwa [e] at this
end Go.Proofs.YtlbipbepeeopaaaV
