/- IsFinite, finite lists, vectors. -/
import Derived.Test.YtockifchghllhaaDoorFlt
import Derived.Test.YtockifchghllhaaDoorToF
import Derived.Test.YtockifchghllhaaDoorIdxF
namespace Go.Proofs.YtockifchghllhaaDoor
open Go.RowKit

/-- Is it a number (no NaN, no infinity)? -/
def fin (k : FloatKind) (o : Option Nat) : Bool := match o with
  | none => false
  | some b => !(k.decode b).isInfinity

/-- How two floats stand to one another, by what 'cn' leaves. -/
def ford (k : FloatKind) (x y : Option Nat) : Option Ordering := x.bind fun a => y.bind fun b => k.format.order a b

theorem order_cn (k : FloatKind) (a b : Nat) : k.format.order a b = ford k (cn k a) (cn k b) := by
  unfold ford
  cases h1 : cn k a with
  | none =>
    obtain ⟨s, t, hd⟩ := cn_none h1
    show (k.decode a).order (k.decode b) = none
    rw [hd]; cases k.decode b <;> rfl
  | some a' =>
    obtain ⟨rfl, _⟩ := cn_some h1
    cases h2 : cn k b with
    | none =>
      obtain ⟨s, t, hd⟩ := cn_none h2
      show (k.decode a).order (k.decode b) = none
      rw [hd]; cases k.decode a <;> rfl
    | some b' =>
      obtain ⟨rfl, _⟩ := cn_some h2
      rfl

theorem signed_neg (s : Bool) (m u : Nat) : Ieee.signed (!s) m u = - Ieee.signed s m u := by
  cases s <;> simp [Ieee.signed]

theorem decode_zero (k : FloatKind) : ∃ p, k.decode 0 = .number false 0 p := by
  cases k
  · exact ⟨_, rfl⟩
  · exact ⟨_, rfl⟩

theorem nearest_zero (k : FloatKind) (p : Int) : k.format.nearest false 0 p = 0 := by
  unfold Ieee.Format.nearest Ieee.Format.word
  simp

/-- x - x == 0 just where x is finite. -/
theorem sub_self_zero (k : FloatKind) (x r : Nat) (h : cn k r = fbin .sub k (cn k x) (cn k x)) : (k.format.order r 0 == some Ordering.eq) = fin k (cn k x) := by
  cases hx : cn k x with
  | none =>
    rw [hx] at h
    have : k.format.order r 0 = none := by rw [order_cn, h]; rfl
    rw [this]; rfl
  | some b =>
    obtain ⟨rfl, hn⟩ := cn_some hx
    rw [hx] at h
    have hs : fbin .sub k (some x) (some x) = k.format.sub x x := rfl
    rw [hs] at h
    unfold Ieee.Format.sub at h
    have hd' : k.format.read x = k.decode x := rfl
    rw [hd'] at h
    cases hd : k.decode x with
    | nan s t => rw [hd] at hn; simp [Ieee.Datum.isNaN] at hn
    | infinity s =>
      rw [hd] at h
      have : (Ieee.Datum.infinity s).sum (Ieee.Datum.infinity s).opposite = none := by cases s <;> rfl
      rw [this] at h
      have : k.format.order r 0 = none := by rw [order_cn, h]; rfl
      rw [this]; simp [fin, hd, Ieee.Datum.isInfinity]
    | number s m e =>
      rw [hd] at h
      have : (Ieee.Datum.number s m e).sum (Ieee.Datum.number s m e).opposite = some (.number false 0 e) := by
        simp only [Ieee.Datum.opposite, Ieee.Datum.sum, signed_neg]
        have h0 : ∀ u, Ieee.signed s m u + -Ieee.signed s m u = 0 := fun u => by omega
        simp [h0]
      rw [this] at h
      simp only [Option.map_some, Ieee.Format.write, nearest_zero] at h
      obtain ⟨rfl, _⟩ := cn_some h
      obtain ⟨p, hp⟩ := decode_zero k
      have : k.format.order 0 0 = some .eq := by
        show (k.decode 0).order (k.decode 0) = _
        rw [hp]; simp [Ieee.Datum.order]
      rw [this]; simp [fin, hd, Ieee.Datum.isInfinity]

def fins (xs : List Nat) : Bool := xs.all fun x => fin .f32 (cn .f32 x)

def isVec (xs : List Nat) : Bool := decide (1 ≤ xs.length) && decide (xs.length ≤ 32) && fins xs


end Go.Proofs.YtockifchghllhaaDoor
