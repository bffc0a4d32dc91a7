/- WholeImage, part 32 of 38: contracts and lemmas of its proof. Conditions: none. -/
import Derived.Test.YtaaihijkdhmcdaaGreatDoorW30
import Derived.RangeFuncNested
set_option linter.unusedVariables false
set_option linter.unusedSimpArgs false
set_option maxRecDepth 100000
namespace Go.Proofs.YtaaihijkdhmcdaaGreatDoor
section
open Go Go.RowKit
open TR
theorem nib2_inj {x y:BitVec 8}(h:nib2 x=nib2 y):x=y:=by
 unfold nib2 at h;simp only [List.cons.injEq,and_true] at h;obtain ⟨h1,h2⟩:=h;have e1:=congrArg BitVec.toNat h1;have e2:=congrArg BitVec.toNat h2;simp only [BitVec.toNat_udiv,BitVec.toNat_umod,show (16#8:BitVec 8).toNat=16 from rfl] at e1 e2;apply BitVec.eq_of_toNat_eq;omega
theorem flat_nib:∀ l r:List (BitVec 8),l.flatMap nib2=r.flatMap nib2→l=r
 | [],[],_=>rfl
 | [],y::r,h=>by simp [nib2] at h
 | x::l,[],h=>by simp [nib2] at h
 | x::l,y::r,h=>by
  rw [List.flatMap_cons,List.flatMap_cons] at h;have h1:=List.append_inj h (by simp [nib2]);rw [nib2_inj h1.1,flat_nib l r h1.2]
theorem nibs_inj {s t:ByteArray}(h:nibs s=nibs t):s.toList=t.toList:=by
 have h1:=flat_nib _ _ h;unfold bytesL at h1;have h2:s.data.toList=t.data.toList:=by
  have:=congrArg (List.map UInt8.ofBitVec) h1;simpa [Function.comp_def] using this
 have h3:s=t:=by
  cases s;cases t;simp only [ByteArray.mk.injEq];exact Array.toList_inj.1 h2
 rw [h3]
theorem less_irr:∀ x:List UInt8,Op.bytesLess x x=false
 | []=>rfl
 | a::x=>by unfold Op.bytesLess;simp [less_irr x]
theorem less_trans:∀ x y z:List UInt8,Op.bytesLess x y=true→Op.bytesLess y z=true→Op.bytesLess x z=true
 | [],[],_,h,_=>by cases h
 | _::_,[],_,h,_=>by cases h
 | _,_::_,[],_,h=>by cases h
 | [],b::y,c::z,_,_=>rfl
 | a::x,b::y,c::z,h1,h2=>by
  unfold Op.bytesLess at h1 h2 ⊢;simp only [Bool.or_eq_true,Bool.and_eq_true,decide_eq_true_eq,beq_iff_eq] at h1 h2 ⊢
  rcases h1 with h1|⟨rfl,h1⟩
  ·rcases h2 with h2|⟨rfl,h2⟩
   ·exact .inl (UInt8.lt_trans h1 h2)
   ·exact .inl h1
  ·rcases h2 with h2|⟨rfl,h2⟩
   ·exact .inl h2
   ·exact .inr ⟨rfl,less_trans x y z h1 h2⟩
theorem SetOk.far {l:List WrV}(h:SetOk l){i:Nat}:∀ (d:Nat) (hd:i+1+d<l.length),kless l[i].key l[i+1+d].key=true
 | 0,hd=>h.rise i hd
 | d+1,hd=>less_trans _ _ _ (h.far d (by omega)) (h.rise (i+1+d) (by omega))
theorem SetOk.apart {l:List WrV}(h:SetOk l){i j:Nat}(hij:i<j)(hj:j<l.length):nibs l[i].key≠nibs l[j].key:=fun e=>by
 obtain ⟨d,rfl⟩:∃ d,j=i+1+d:=⟨j-i-1,by omega⟩;have h1:=h.far d hj;unfold kless at h1;rw [nibs_inj e,less_irr] at h1;cases h1
section
variable {m:Nat} {V V1 V2:PV} {o:Option Tr} {X Y L:List Nat}
theorem Own.perm (h:Own m V o X)(hp:X.Perm Y):Own m V o Y :=
 ⟨h.rest,h.tree,((List.Perm.append_left (nodesO o) hp).nodup_iff).1 h.nd,fun y=>(h.all y).trans ((List.Perm.append_left (nodesO o) hp).mem_iff)⟩
theorem Own.grew (h:Own m V o X)(hm:m=6∨m=24)(hG:Grew m V V1 L):Own m V1 o (L++X):=by
 have hn:∀ y∈nodesO o++X,y∉L:=fun y hy=>(hG.keep ((h.all y).2 hy)).1
 have hp:(L++(nodesO o++X)).Perm (nodesO o++(L++X)):=by
  rw [← List.append_assoc,← List.append_assoc];exact List.perm_append_comm.append_right X
 refine ⟨hG.rest,⟨?_,fun T hT=>hG.tree (h.tree.at_ T hT),h.tree.ok⟩,?_,fun y=>?_⟩
 ·rw [hG.head 72 (by decide) (by decide)];exact h.tree.root
 ·rw [← hp.nodup_iff,List.nodup_append];exact ⟨hG.nd,h.nd,fun a ha b hb e=>by subst e;exact hn a hb ha⟩
 ·rw [← hp.mem_iff,List.mem_append];by_cases hy:y∈L
  ·exact ⟨fun _=>.inl hy,fun _=>(hG.new y hy).2⟩
  ·rw [hG.old y hy,h.all y];exact ⟨.inr,fun h=>h.elim (fun h=>absurd h hy) id⟩
theorem Own.drop (h:Own m V o (L++X))(hm:m=6∨m=24)(hD:Gone m V V1 L):Own m V1 o X∧Side m V V1 X:=by
 have zf:=sz hm;have hp:(nodesO o++(L++X)).Perm (L++(nodesO o++X)):=by
  rw [← List.append_assoc,← List.append_assoc];exact List.perm_append_comm.append_right X
 have hnd:=hp.nodup_iff.1 h.nd;rw [List.nodup_append] at hnd;have hn:∀ y∈nodesO o++X,y∉L:=fun y hy hL=>hnd.2.2 y hL y hy rfl
 refine ⟨⟨hD.rest,⟨?_,fun T hT=>?_,h.tree.ok⟩,hnd.2.1,fun y=>?_⟩,hD.side hm fun y hy=>hn y (List.mem_append_right _ hy)⟩
 ·rw [hD.words 72 (by decide) (by omega) (.inl (by decide))];exact h.tree.root
 ·obtain rfl:o=some T:=hT;exact hD.tree hm (h.tree.at_ T rfl) fun y hy=>hn y (List.mem_append_left _ hy)
 ·by_cases hy:y∈L
  ·rw [hD.gone y hy];exact ⟨fun h=>by omega,fun h=>absurd hy (hn y h)⟩
  ·rw [hD.old y hy,h.all y,hp.mem_iff,List.mem_append];exact ⟨fun h=>h.elim (fun h=>absurd h hy) id,.inr⟩
end
theorem split_one {k:List Nb}{v:BitVec 64}:∀ {A A' B B':List TR.Item},A++(k,v)::B=A' ++ (k,v)::B'→Keys (A++(k,v)::B)→A=A'∧B=B'
 | [],[],_,_,h,_=>by simp at h;exact ⟨rfl,h⟩
 | [],y::A',B,B',h,hk=>by
  simp only [List.nil_append,List.cons_append,List.cons.injEq] at h;obtain ⟨rfl,h⟩:=h;unfold Keys at hk;rw [List.nil_append,h] at hk;simp at hk
 | x::A,[],B,B',h,hk=>by
  simp only [List.nil_append,List.cons_append,List.cons.injEq] at h;obtain ⟨rfl,h⟩:=h;unfold Keys at hk;simp at hk
 | x::A,y::A',B,B',h,hk=>by
  simp only [List.cons_append,List.cons.injEq] at h;obtain ⟨rfl,h⟩:=h;have h2:Keys (A++(k,v)::B):=by
   unfold Keys at hk ⊢;rw [List.cons_append,List.map_cons,List.nodup_cons] at hk;exact hk.2
  obtain ⟨h3,h4⟩:=split_one h h2;exact ⟨by rw [h3],h4⟩
theorem chg_back {k:List Nb}{u v:BitVec 64}{I J I':List TR.Item}(h:TR.Chg k u v I J)(h':TR.Chg k v u J I')(hv:v≠0#64)(hK:Keys J):I'=I:=by
 obtain ⟨A,B,rfl,rfl⟩:=h;obtain ⟨A',B',e,rfl⟩:=h';rw [own_pos k hv] at e hK;rw [List.append_assoc,List.append_assoc] at e;rw [List.append_assoc] at hK;obtain ⟨rfl,rfl⟩:=split_one e hK;rfl
abbrev ChF:=BitVec 64→List LinkV × List Nat
def chU (ch:ChF)(u:BitVec 64)(p:List LinkV × List Nat):ChF:=fun x=>if x=u then p else ch x
def tlC (ch:ChF)(v:BitVec 64):List LinkV × List Nat:=if v=0#64 then ([],[]) else ch v
structure PastV where
 key:ByteArray
 value:BitVec 64
 place:BitVec 64
structure Stp (I J:List TR.Item) (ch ch':ChF) (p:PastV) (off:Nat) (r:LinkV):Prop where
 name:p.place=nameW off
 small:off<1000000
 ne:p.place≠0#64
 chg:TR.Chg (nibs p.key) p.value p.place I J
 new:∀ e∈I,e.2≠p.place
 nxt:r.nxt=p.value
 ch:ch'=chU ch p.place (r::(tlC ch p.value).1,off::(tlC ch p.value).2)
theorem chL_same {ch ch':ChF}{I:List TR.Item}(h:∀ e∈I,ch' e.2=ch e.2):chL ch' I=chL ch I:=by
 induction I with
 | nil=>rfl
 | cons e I ih =>
  rw [show e::I=[e]++I from rfl,chL_app,chL_app,chL_one,chL_one,h e List.mem_cons_self,ih fun f hf=>h f (List.mem_cons_of_mem _ hf)]
theorem chL_own (ch:ChF)(k:List Nb)(v:BitVec 64):chL ch (own k v)=(tlC ch v).2:=by
 unfold own tlC;split
 ·rfl
 ·rw [chL_one]
theorem chU_same (ch:ChF)(u:BitVec 64)(p:List LinkV × List Nat):chU ch u p u=p:=by unfold chU;rw [if_pos rfl]
theorem chU_other (ch:ChF)(u:BitVec 64)(p:List LinkV × List Nat){x:BitVec 64}(h:x≠u):chU ch u p x=ch x:=by unfold chU;rw [if_neg h]
section
variable {I J:List TR.Item} {ch ch':ChF} {p:PastV} {off:Nat} {r:LinkV}
theorem Stp.perm (h:Stp I J ch ch' p off r):(chL ch' J).Perm (off::chL ch I):=by
 obtain ⟨A,B,rfl,rfl⟩:=h.chg;have hA:chL ch' A=chL ch A:=chL_same fun e he=>by rw [h.ch];exact chU_other _ _ _ (h.new e (by simp [he]))
 have hB:chL ch' B=chL ch B:=chL_same fun e he=>by rw [h.ch];exact chU_other _ _ _ (h.new e (by simp [he]))
 rw [chL_app,chL_app,chL_app,chL_app,hA,hB,own_pos _ h.ne,chL_one,chL_own,h.ch,chU_same];show (chL ch A++off::(tlC ch p.value).2++chL ch B).Perm (off::(chL ch A++(tlC ch p.value).2++chL ch B));rw [List.append_assoc,List.append_assoc];exact List.perm_middle
end
theorem FallL.tail:∀ {a:LinkV} {l:List LinkV},FallL (a::l)→FallL l
 | _,[],_=>trivial
 | _,_::_,h=>h.2
theorem FallL.push {a:LinkV}:∀ {l:List LinkV},FallL l→(∀ k∈l,k.stamp.toNat<a.stamp.toNat)→FallL (a::l)
 | [],_,_=>trivial
 | b::_,h,h2=>⟨h2 b List.mem_cons_self,h⟩
theorem Own.keys {m:Nat}{V:PV}{o:Option Tr}{X:List Nat}(h:Own m V o X):Keys (itemsO o):=by
 cases o with
 | none=>unfold Keys itemsO;simp
 | some T=>exact items_keys [] T (h.tree.ok T rfl)
theorem nameW_inj {x y:Nat}(hx:x<1000000)(hy:y<1000000)(h:nameW x=nameW y):x=y:=by
 have h1:=(name_int hx).2;have h2:=(name_int hy).2;rw [h] at h1;omega
section
variable {m t off:Nat} {V V1 V2:PV} {o:Option Tr} {ch ch':ChF} {p:PastV} {r:LinkV} {I:List TR.Item}
theorem chL_mem {ch:ChF}{e:TR.Item}(he:e∈I){y:Nat}(hy:y∈(ch e.2).2):y∈chL ch I:=List.mem_flatMap.2 ⟨e,he,hy⟩
theorem Sto.pos (h:Sto m V o ch [] t){y:Nat}(hy:y∈chL ch (itemsO o)):0<Bk m V ((y:Nat):Int):=(h.own.all y).2 (List.mem_append_right _ (List.mem_append_left _ hy))
theorem Sto.fresh (h:Sto m V o ch [] t)(hm:m=6∨m=24)(hb:Bk m V (off:Int)=0)(ho:off<1000000)(h0:0<off):∀ e∈itemsO o,e.2≠nameW off:=fun e he h1=>by
 obtain ⟨h2,_,_⟩:=h.chain e he;generalize hl:(ch e.2).1=l at h2;cases l with
 | nil=>exact name_ne ho h0 (h1.symm.trans h2.1)
 | cons k l =>
  obtain ⟨o',L',e1,e2,e3,_⟩:=h2;have h3:=(e3.in_ hm).2.2.2.1;rw [h1] at e2;have h4:=nameW_inj ho h3 e2;have h5:=e3.blk;rw [← h4,hb] at h5;omega
theorem Sto.write {key:ByteArray}{value:BitVec 64}{T':Tr}(hm:m=6∨m=24)(h:Sto m V o ch [] t)(hG:Grew m V V1 [off])(hL:LkAt m V1 off r)(hr:r.stamp.toNat≤t)(hnx:r.nxt=value)(hf:∀ k∈(tlC ch value).1,k.stamp.toNat<r.stamp.toNat)
  (hO:Own m V2 (some T') (off::(chL ch (itemsO o)++[]))) (hs:Side m V1 V2 (off::(chL ch (itemsO o)++[]))) (hc:TR.Chg (nibs key) value (nameW off) (itemsO o) (T'.items [])) :
  Sto m V2 (some T') (chU ch (nameW off) (r::(tlC ch value).1,off::(tlC ch value).2)) [] t∧Stp (itemsO o) (T'.items []) ch (chU ch (nameW off) (r::(tlC ch value).1,off::(tlC ch value).2)) ⟨key,value,nameW off⟩ off r:=by
 obtain ⟨_,z2,_,z4,z5,_,_⟩:=hL.in_ hm;have zf:=sz hm;have hb:=(hG.new off (List.mem_singleton.2 rfl)).1;have hfr:=h.fresh hm hb z4 (by omega);have hSt:Stp (itemsO o) (T'.items []) ch (chU ch (nameW off) (r::(tlC ch value).1,off::(tlC ch value).2)) ⟨key,value,nameW off⟩ off r:=⟨rfl,z4,z5,hc,hfr,hnx,rfl⟩;refine ⟨⟨hO.perm ?_,fun e he=>?_⟩,hSt⟩
 ·rw [List.append_nil,List.append_nil];exact hSt.perm.symm
 ·have hside:Side m V V2 (chL ch (itemsO o)):=(hG.side fun y hy=>h.pos hy).trans (hs.sub fun y hy=>List.mem_cons_of_mem _ (List.mem_append_left _ hy));have hold:∀ e∈itemsO o,ChAt m V2 e.2 (ch e.2).1 (ch e.2).2:=fun e he=>(h.chain e he).1.side hside fun y hy=>chL_mem he hy
  obtain ⟨A,B,e1,e2⟩:=hc;have he':e∈A++TR.own (nibs key) (nameW off)++B:=by rw [← e2];exact he
  rw [own_pos _ z5,List.append_assoc,List.mem_append,List.mem_append,List.mem_singleton] at he';have hin:e∈A∨e∈B→_:=fun h1:e∈A∨e∈B=>by
   have h2:e∈itemsO o:=by rw [e1];rcases h1 with h1|h1<;>simp [h1]
   have h3:=chU_other ch (nameW off) (r::(tlC ch value).1,off::(tlC ch value).2) (hfr e h2);have h4:=h.chain e h2;rw [← h3] at h4;have h5:=hold e h2;rw [← h3] at h5;exact (⟨h5,h4.2⟩:ChAt m V2 e.2 _ _∧FallL _∧_)
  rcases he' with he'|rfl|he'
  ·exact hin (.inl he')
  ·rw [chU_same];have hk:ChAt m V2 value (tlC ch value).1 (tlC ch value).2∧FallL (tlC ch value).1∧∀ k∈(tlC ch value).1,k.stamp.toNat≤t:=by
    unfold tlC;by_cases hv:value=0#64
    ·rw [if_pos hv];exact ⟨⟨hv,rfl⟩,trivial,fun k hk=>by cases hk⟩
    ·rw [if_neg hv];have h2:(nibs key,value)∈itemsO o:=by rw [e1,own_pos _ hv];simp
     exact ⟨hold _ h2,(h.chain _ h2).2⟩
   refine ⟨⟨off,_,rfl,rfl,hL.side hs List.mem_cons_self,?_⟩,hk.2.1.push hf,fun k h1=>?_⟩
   ·rw [hnx];exact hk.1
   ·rcases List.mem_cons.1 h1 with rfl|h1
    ·exact hr
    ·exact hk.2.2 k h1
  ·exact hin (.inr he')
theorem Sto.undo {o1:Option Tr}(hm:m=6∨m=24)(h:Sto m V o ch' [] t)(hS:Stp I (itemsO o) ch ch' p off r)(hO:Own m V1 o1 (chL ch' (itemsO o)++[]))(hs:Side m V V1 (chL ch' (itemsO o)++[]))(hc:TR.Chg (nibs p.key) p.place p.value (itemsO o) (itemsO o1))(hD:Gone m V1 V2 [off]) :
  itemsO o1=I∧Sto m V2 o1 ch [] t:=by
 have hI:=chg_back hS.chg hc hS.ne h.own.keys;have hO1:Own m V1 o1 ([off]++chL ch I):=hO.perm (by rw [List.append_nil];exact hS.perm);obtain ⟨hO2,hs2⟩:=hO1.drop hm hD;refine ⟨hI,⟨by rw [hI,List.append_nil];exact hO2,fun e he=>?_⟩⟩;have hside:Side m V V2 (chL ch I):=(hs.sub fun y hy=>List.mem_append_left _ (hS.perm.mem_iff.2 (List.mem_cons_of_mem _ hy))).trans hs2;rw [hI] at he;obtain ⟨A,B,e1,e2⟩:=hS.chg
 suffices h0:ChAt m V e.2 (ch e.2).1 (ch e.2).2∧FallL (ch e.2).1∧∀ k∈(ch e.2).1,k.stamp.toNat≤t from ⟨h0.1.side hside fun y hy=>chL_mem he hy,h0.2⟩
 have he':=he;rw [e1,List.append_assoc,List.mem_append,List.mem_append] at he';have hin:e∈A∨e∈B→ChAt m V e.2 (ch e.2).1 (ch e.2).2∧FallL (ch e.2).1∧∀ k∈(ch e.2).1,k.stamp.toNat≤t:=fun h1=>by
  have h2:e∈itemsO o:=by rw [e2];rcases h1 with h1|h1<;>simp [h1]
  have h4:=h.chain e h2;rw [hS.ch,chU_other _ _ _ (hS.new e he)] at h4;exact h4
 rcases he' with he'|he'|he'
 ·exact hin (.inl he')
 ·have hv:p.value≠0#64:=fun h1=>by rw [h1,own_zero] at he';cases he'
  rw [own_pos _ hv,List.mem_singleton] at he';subst he';have h2:(nibs p.key,p.place)∈itemsO o:=by rw [e2,own_pos _ hS.ne];simp
  have h4:=h.chain _ h2;dsimp only at h4 ⊢;have h6:ch' p.place=(r::(ch p.value).1,off::(ch p.value).2):=by
   rw [hS.ch,chU_same];unfold tlC;rw [if_neg hv]
  rw [h6] at h4;obtain ⟨⟨o',L',h7,h8,h9,h10⟩,h11,h12⟩:=h4;obtain ⟨rfl,rfl⟩:off=o'∧(ch p.value).2=L':=by simpa using h7
  rw [hS.nxt] at h10;exact ⟨h10,h11.tail,fun k hk=>h12 k (List.mem_cons_of_mem _ hk)⟩
 ·exact hin (.inr he')
end
end
section
open Go Go.RowKit
open TR
def CellIs (w:World)(a:Addr)(v:Value):Prop:=w.cell? a=some v
theorem own_find {k k':List Nb}(u:BitVec 64)(h:k'≠k):(own k u).find? (fun e=>decide (e.1=k'))=none:=by
 unfold own;split
 ·rfl
 ·simp [Ne.symm h]
theorem valI_chg {k k':List Nb}{u v:BitVec 64}{I J:List TR.Item}(h:TR.Chg k u v I J)(hk:k'≠k):valI J k'=valI I k':=by
 obtain ⟨A,B,rfl,rfl⟩:=h;unfold valI;rw [List.find?_append,List.find?_append,List.find?_append,List.find?_append,own_find u hk,own_find v hk]
theorem valI_in {I:List TR.Item}{k:List Nb}(h:valI I k≠0#64):(k,valI I k)∈I:=by
 unfold valI at h ⊢;cases e:I.find? (fun e=>decide (e.1=k)) with
 | none=>rw [e] at h;exact absurd rfl h
 | some x =>
  have h1:=List.mem_of_find?_eq_some e;have h2:=List.find?_some e;have h3:x.1=k:=by simpa using h2
  rw [← h3];exact h1
theorem Stp.other {I J:List TR.Item}{ch ch':ChF}{p:PastV}{off:Nat}{r:LinkV}(h:Stp I J ch ch' p off r){k:List Nb}(hk:k≠nibs p.key):valI J k=valI I k∧tlC ch' (valI J k)=tlC ch (valI I k):=by
 have h1:=valI_chg h.chg hk;refine ⟨h1,?_⟩;rw [h1];unfold tlC;by_cases hz:valI I k=0#64
 ·rw [if_pos hz,if_pos hz]
 ·rw [if_neg hz,if_neg hz,h.ch,chU_other _ _ _ (h.new _ (valI_in hz))]
theorem tl_stamps {m t:Nat}{V:PV}{o:Option Tr}{ch:ChF}{X:List Nat}(h:Sto m V o ch X t)(k:List Nb):∀ x∈(tlC ch (valI (itemsO o) k)).1,x.stamp.toNat≤t:=by
 intro x hx;unfold tlC at hx;by_cases hz:valI (itemsO o) k=0#64
 ·rw [if_pos hz] at hx;cases hx
 ·rw [if_neg hz] at hx;exact (h.chain _ (valI_in hz)).2.2 x hx
theorem Sto.mono {m t t':Nat}{V:PV}{o:Option Tr}{ch:ChF}{X:List Nat}(h:Sto m V o ch X t)(ht:t≤t'):Sto m V o ch X t' :=
 ⟨h.own,fun e he=>⟨(h.chain e he).1,(h.chain e he).2.1,fun k hk=>Nat.le_trans ((h.chain e he).2.2 k hk) ht⟩⟩
theorem Sto.lower {m t t':Nat}{V V':PV}{o o':Option Tr}{ch:ChF}{X X':List Nat}(h:Sto m V o ch X t)(h':Sto m V' o' ch X' t')(hi:itemsO o=itemsO o'):Sto m V o ch X t' :=
 ⟨h.own,fun e he=>⟨(h.chain e he).1,(h.chain e he).2.1,(h'.chain e (hi▸he)).2.2⟩⟩
def seeE (ch:ChF)(t:BitVec 64)(e:TR.Item):List (ByteArray × ByteArray):=if (seeP (ch e.2).1 t).2=true then [(keyS e.1,(seeP (ch e.2).1 t).1)] else []
def seenL (ch:ChF)(t:BitVec 64)(I:List TR.Item):List (ByteArray × ByteArray):=I.flatMap (seeE ch t)
theorem seenL_take {ch:ChF}{t:BitVec 64}{I:List TR.Item}{k:Nat}(h:k<I.length):seenL ch t (I.take (k+1))=seenL ch t (I.take k)++seeE ch t I[k]:=by
 unfold seenL;rw [List.take_succ_eq_append_getElem h,List.flatMap_append];simp
theorem seenL_len (ch:ChF)(t:BitVec 64):∀ I:List TR.Item,(seenL ch t I).length≤I.length
 | []=>Nat.le_refl _
 | e::I=>by
  have:=seenL_len ch t I;unfold seenL at this ⊢;rw [List.flatMap_cons,List.length_append,List.length_cons];have h2:(seeE ch t e).length≤1:=by unfold seeE;split<;>simp
  omega
theorem rise_same:∀ {a b:List Nat},a.Pairwise (· < ·)→b.Pairwise (· < ·)→(∀ y,y∈a↔y∈b)→a=b
 | [],[],_,_,_=>rfl
 | [],y::b,_,_,h=>by have:=(h y).2 List.mem_cons_self;cases this
 | x::a,[],_,_,h=>by have:=(h x).1 List.mem_cons_self;cases this
 | x::a,y::b,ha,hb,h=>by
  rw [List.pairwise_cons] at ha hb;have hxy:x=y:=by
   rcases List.mem_cons.1 ((h x).1 List.mem_cons_self) with e|h1
   ·exact e
   ·rcases List.mem_cons.1 ((h y).2 List.mem_cons_self) with e|h2
    ·exact e.symm
    ·have:=hb.1 x h1;have:=ha.1 y h2;omega
  subst hxy;rw [rise_same ha.2 hb.2 fun z=>⟨fun hz=>?_,fun hz=>?_⟩]
  ·rcases List.mem_cons.1 ((h z).1 (List.mem_cons_of_mem _ hz)) with e|h1
   ·subst e;have:=ha.1 z hz;omega
   ·exact h1
  ·rcases List.mem_cons.1 ((h z).2 (List.mem_cons_of_mem _ hz)) with e|h1
   ·subst e;have:=hb.1 z hz;omega
   ·exact h1
theorem le_lt {l:List Nat}(h:l.Pairwise (·≤·))(hn:l.Nodup):l.Pairwise (· < ·):=by
 unfold List.Nodup at hn;exact (List.pairwise_and_iff.2 ⟨h,hn⟩).imp fun ⟨h1,h2⟩=>Nat.lt_of_le_of_ne h1 h2
theorem clean_same {m t:Nat}{V:PV}{o:Option Tr}{ch:ChF}{ss:List Nat}(hm:m=6∨m=24)(h:Sto m V o ch [] t)(hp:List.Perm ss (nodesO o++chL ch (itemsO o)))(hs:ss.Pairwise (·≤·)):ss=allK (shN m) V.T m:=by
 have hn:=h.own.nd;rw [List.append_nil] at hn;refine rise_same (le_lt hs (hp.nodup_iff.2 hn)) (all_rise V.T m).1 fun y=>?_
 rw [hp.mem_iff,all_bk h.own.rest hm,h.own.all,List.append_nil]
theorem ChAt.words {m:Nat}{V V1:PV}(hb:∀ y:Nat,Bk m V1 (y:Int)=Bk m V (y:Int))(hw:∀ y i:Nat,((8*i:Nat):Int)<Bk m V (y:Int)→V1.D.word (y+8*i)=V.D.word (y+8*i)):∀ {l:List LinkV} {x:BitVec 64} {L:List Nat},ChAt m V x l L→ChAt m V1 x l L
 | [],_,_,h=>h
 | _::_,_,_,⟨o,L',h1,h2,h3,h4⟩=>⟨o,L',h1,h2,h3.keep (hb o) (fun w hw'=>hw o w (by rw [h3.blk];omega)),ChAt.words hb hw h4⟩
theorem Sto.slot {m t:Nat}{V:PV}{o:Option Tr}{ch:ChF}(h:Sto m V o ch [] t)(hm:m=6∨m=24)(st:BitVec 64) :
  (runS V.D (putS ((64:Nat):Int) st)).2=0∧(runS V.D (putS ((64:Nat):Int) st)).1.word 64=st∧(runS V.D (putS ((64:Nat):Int) st)).1.steps≤V.D.steps+3∧Sto m { V with D:=(runS V.D (putS ((64:Nat):Int) st)).1 } o ch [] t:=by
 have zf:=sz hm;have hr:=h.own.rest;have hl:=hr.well.lines;have hsz:V.D.size=64*nL m:=by unfold NM.Dv.size;rw [hl]
 obtain ⟨u1,u2,u3,u4,u5,_⟩:=put_up hr.well.ok hr.well.up (by omega) (o:=64) (by decide) (by omega) st;have hst:=runS_steps V.D (putS ((64:Nat):Int) st);have h64:=u5 64 (by decide) (by omega);rw [if_pos rfl] at h64;obtain ⟨D',hD⟩:∃ D',D'=(runS V.D (putS ((64:Nat):Int) st)).1:=⟨_,rfl⟩;rw [← hD] at u2 u3 u4 u5 hst h64 ⊢;have hw:∀ x,x%8=0→x<64*nL m→x≠64→D'.word x=V.D.word x:=fun x h8 hx hn=>by rw [u5 x h8 (by omega),if_neg hn]
 have hwb:∀ y i:Nat,((8*i:Nat):Int)<Bk m V (y:Int)→D'.word (y+8*i)=V.D.word (y+8*i):=fun y i hi=>by
  obtain ⟨h1,h2,h3⟩:=bk_word hm hi;exact hw _ h1 h2 (by omega)
 have hR:Rest m { V with D:=D' }:=hr.dev hm u2 u3 (by omega) fun x h8 hx hc=>hw x h8 (by omega) (by omega)
 refine ⟨u1,h64,hst,⟨⟨hR,⟨?_,fun T hT=>at_mono (h.own.tree.at_ T hT) fun y _ n hn=>hn.keep rfl fun i hi=>hwb y i (by rw [hn.blk];omega),h.own.tree.ok⟩,h.own.nd,h.own.all⟩,fun e he=>⟨ChAt.words (V:=V) (V1:={ V with D:=D' }) (fun _=>rfl) hwb (h.chain e he).1,(h.chain e he).2⟩⟩⟩;show D'.word 72=_;rw [hw 72 (by decide) (by omega) (by decide)];exact h.own.tree.root
end
section
open Go Go.RowKit
open TR
def cjC (p b x:Nat)(st:BitVec 64)(sv dv:Value)(ov:Bool)(en:Int):Array Value:=#[.pointer (some ⟨p,0,none⟩),.pointer (some ⟨b,0,none⟩),.pointer (some ⟨x,0,none⟩),.int .u64 (uv st),sv,dv,.bool ov,.int .i64 en]
theorem recI:(Tryz.prog.info? 184).map (·.size)=some 4:=by kernel_rfl
theorem pastI:(Tryz.prog.info? 360).map (·.size)=some 2:=by kernel_rfl
theorem past_one (a c:Int):∀ v∈(#[.int .u64 a,.int .u64 c]:Array Value).toList,v.oneCell'=true:=by
 intro v hv;simp at hv
 rcases hv with rfl|rfl<;>rfl
def UndoP (m:Nat)(V:PV)(b p:Nat)(G:Nat→Prop)(o:Option Tr)(X:List Nat)(k:List Nb)(u:BitVec 64)(w0:World)(v:Value)(w':World):Prop :=
 ∃ V' G' o',v=.int .i64 0∧Sys w' m V' b p G'∧Turn w0 G w' G'∧Side m V V' X∧V'.D.steps≤V.D.steps+2000∧Own m V' o' X∧TR.Chg k (valI (itemsO o) k) u (itemsO o) (itemsO o')
section
variable {w w':World} {m b p x j top n:Nat} {V V':PV} {G G' F:Nat→Prop} {o:Option Tr} {X:List Nat} {st:BitVec 64} {sv dv:Value} {ov:Bool} {en:Int}
set_option maxHeartbeats 1000000
theorem undo_calls (key:ByteArray)(u:BitVec 64)(w0:World)(h:Sys w0 m V b p G)(hm:m=6∨m=24)(hst:V.D.steps+3200000<1099511627776)(hx:Blk w0 x (IxC p b) 178)(hxG:¬ G x)(hj:Blk w0 j (cjC p b x st sv dv ov en) 173)(hk:key.size≤16)(hO:Own m V o X)(hv:valI (itemsO o) (nibs key)≠0#64) :
  Ret Tryz.prog 254 #[.pointer (some ⟨j,0,none⟩),.string key,.int .u64 (uv u)] w0 fun v w'=>UndoP m V b p G o X (nibs key) u w0 v w':=by
 have c2:w0.cell? ⟨j,2,none⟩=some (.pointer (some ⟨x,0,none⟩)):=hj.cell 2;cases o with
 | none=>exact absurd rfl hv
 | some T =>
  refine ret_of (args:=[_,_,_]) _ Tryz.func254 rfl Tryz.ntmps254 (by simp) ?_;by_cases hu:u=0#64
  ·subst hu;simp -implicitDefEqProofs [go_sem,c2];refine callE_of (idxCut_calls x key T X w0 h hm hst hx hxG hk hO hv) ?_;rintro v w1 ⟨V1,G1,h1,t1,s1,hs1,rfl,o1,hO1,hc1⟩;simp -implicitDefEqProofs [go_sem];refine body_tmp 6 rfl ?_;simp -implicitDefEqProofs [go_sem];exact ⟨V1,G1,o1,rfl,h1,t1,s1,hs1,hO1,hc1⟩
  ·have hu':(u==0#64)=false:=by simpa using hu
   simp -implicitDefEqProofs [go_sem,c2,hu'];refine callE_of (idxPut_calls x key (some T) X u w0 h hm hst hx hxG hk hO hu) ?_;rintro v w1 ⟨V1,G1,h1,t1,s1,hs1,⟨rfl,T1,hO1,hc1⟩|⟨_,_,hv0,_⟩⟩
   ·simp -implicitDefEqProofs [go_sem];refine body_tmp 6 rfl ?_;simp -implicitDefEqProofs [go_sem];exact ⟨V1,G1,some T1,rfl,h1,t1,s1,by omega,hO1,hc1⟩
   ·exact absurd hv0 hv
def ComWP (m:Nat)(V:PV)(b p:Nat)(G:Nat→Prop)(o:Option Tr)(ch:ChF)(st:BitVec 64)(y:WrV)(w0:World)(v:Value)(w':World):Prop :=
 ∃ (V':PV) (G':Nat→Prop) (o':Option Tr) (ch':ChF) (value place:BitVec 64) (e:Int),v=.tuple #[.agg #[.int .u64 (uv value),.int .u64 (uv place)],.int .i64 e]∧Sys w' m V' b p G'∧Turn w0 G w' G'∧V'.D.steps≤V.D.steps+5000∧V'.D.word 64=V.D.word 64∧Sto m V' o' ch' [] st.toNat ∧
  ((e=0∧place=0#64∧o'=o∧ch'=ch∧V'=V∧y.gone=true)∨(e=0∧∃ off r,Stp (itemsO o) (itemsO o') ch ch' ⟨y.key,value,place⟩ off r∧r.stamp=st∧r.gone=y.gone∧r.text=y.text)∨(e=6∧o'=o∧ch'=ch∧∃ V1 L,Grew m V V1 L∧L.length≤5∧Many m V1 m))
theorem sys_row {g:Nat}{C:Array Value}(h:Sys w m V b p G)(hg:¬ G g)(ht:1≠g):Sys (w.setRow g C) m V b p G:=h.mod ((Mod.refl (fun k=>k=g) w).row (.inl rfl) _) (fun k hk e=>hg (by rw [← e];exact hk)) ht
theorem turn_row {g:Nat}{C:Array Value}(h:Turn w G w' G')(hg:w.heap.size≤g):Turn w G (w'.setRow g C) G':=⟨h.mod.row (.inr hg) _,h.new⟩
theorem comWrite_calls {ch:ChF}(y:WrV)(w0:World)(h:Sys w0 m V b p G)(hm:m=6∨m=24)(hst:V.D.steps+3300000<1099511627776)(hx:Blk w0 x (IxC p b) 178)(hxG:¬ G x)(hj:Blk w0 j (cjC p b x st sv dv ov en) 173)(hjG:¬ G j)(hy:y.right)(hS:Sto m V o ch [] st.toNat)(h0:st≠0#64)
  (hf:∀ k∈(tlC ch (valI (itemsO o) (nibs y.key))).1,k.stamp.toNat<st.toNat) :
  Ret Tryz.prog 249 #[.pointer (some ⟨j,0,none⟩),.agg y.cs] w0 fun v w'=>ComWP m V b p G o ch st y w0 v w':=by
 have bel0:=Below.refl w0.heap.size w0;have hr:=hS.own.rest;have hh:=h;have hxx:=hx;have hjj:=hj;have hk0:y.cs[0]?=some (.string y.key):=rfl;have hk1:y.cs[1]?=some (.string y.text):=rfl;have hk2:y.cs[2]?=some (.bool y.gone):=rfl;refine ret_of (args:=[_,_]) _ Tryz.func249 rfl Tryz.ntmps249 (by simp) ?_;simp -implicitDefEqProofs [go_sem];generalize hw1:World.alloc w0 _=w1 at *;obtain ⟨hB1,b1,sz1,bel1⟩:=newF hw1 bel0;replace h:=h.next b1
 replace hx:=hx.next b1
 replace hj:=hj.next b1
 have hgt:1≠w1.heap.size:=fun e=>by have:=hh.tabs.lt;have:=bel1.size;omega
 generalize hw2:World.alloc w1 _=w2 at *;obtain ⟨hB2,b2,sz2,bel2⟩:=newF hw2 bel1;replace h:=h.next b2
 replace hx:=hx.next b2
 replace hj:=hj.next b2
 replace hB1:=hB1.next b2
 refine drawE_mix [.pure 0,.pure 1,.pure 2,.pure 4,.take 3,.run 5 [3],.run 6 [],.pure 7,.pure 8,.pure 9,.pure 10,.pure 11] mixed (by decide +kernel) (by simp only [wo];rfl) ?_;have bd:=(Below.refl w2.heap.size w2).drew;have bel3:Below w0.heap.size w0 (World.drew w2):=bel2.drew;generalize World.drew w2=w3 at *;replace h:=h.next bd
 replace hx:=hx.next bd
 replace hj:=hj.next bd
 replace hB1:=hB1.next bd
 replace hB2:=hB2.next bd
 have c2:w3.cell? ⟨j,2,none⟩=some (.pointer (some ⟨x,0,none⟩)):=hj.cell 2;simp -implicitDefEqProofs [go_sem];refine onTake_of (fun w'=>w'.cell? ⟨j,2,none⟩=some (.pointer (some ⟨x,0,none⟩))) (.pointer (some ⟨x,0,none⟩)) c2 (fun w' hw=>by simp -implicitDefEqProofs [go_sem,hw]) ?_;simp -implicitDefEqProofs [go_sem,hB1.cell,hk0];refine callE_of (idxGet_calls x y.key o w3 h hr hm hx hy.1 hS.own.tree) ?_;rintro v w4 ⟨b4,hv4⟩;refine ⟨.inr (by simp),?_⟩
 obtain ⟨value,hvl⟩:∃ value,value=valI (itemsO o) (nibs y.key):=⟨_,rfl⟩;rw [← hvl] at hv4 hf;have bel4:=btr bel3 b4;replace h:=h.next b4
 replace hx:=hx.next b4
 replace hj:=hj.next b4
 replace hB1:=hB1.next b4
 replace hB2:=hB2.next b4
 have hfix:∀ wv:Value,(value=0#64→wv=.int .u64 0)→(value≠0#64→wv=.int .u64 (uv value))→wv=.int .u64 (uv value):=fun wv h1 h2=>by
  by_cases hz:value=0#64
  ·rw [h1 hz,hz];rfl
  ·exact h2 hz
 by_cases hno:value=0#64∧y.gone=true
 ·obtain ⟨hz,hg⟩:=hno;rw [if_pos hz] at hv4;subst hv4;rw [hg] at hk2;have stP:=stAll (P:=Tryz.prog) (ty:=360) (cs:=#[.int .u64 0,.int .u64 0]) hB2 pastI rfl (past_one 0 0);simp -implicitDefEqProofs [go_sem,hB1.cell,hk2,↓stP];refine bodyCell 4 5 rfl (by simp -implicitDefEqProofs [go_sem]) (hB2.row _) Tryz.underlying360 rfl pastI ?_;have hbR:Below w0.heap.size w0 (w4.setRow w1.heap.size #[.int .u64 0,.int .u64 0]):=Below.row bel4 bel1.size _;simp -implicitDefEqProofs [go_sem]
  exact ⟨V,G,o,ch,0#64,0#64,0,rfl,hh.next hbR,Turn.of hbR,by omega,rfl,hS,.inl ⟨rfl,rfl,rfl,rfl,rfl,hg⟩⟩
 have hk2':y.cs[2]?=some (.bool y.gone):=rfl;have e0:value=0#64→Value.int .u64 0=Value.int .u64 (uv value):=fun h=>by rw [h];rfl
 have h3:(value=0#64∧y.gone=false)∨(value≠0#64∧y.gone=false)∨(value≠0#64∧y.gone=true):=by
  by_cases hz:value=0#64
  ·refine .inl ⟨hz,?_⟩;cases e:y.gone
   ·rfl
   ·exact absurd ⟨hz,e⟩ hno
  ·cases e:y.gone
   ·exact .inr (.inl ⟨hz,rfl⟩)
   ·exact .inr (.inr ⟨hz,rfl⟩)
 clear hno
 rcases h3 with ⟨hz,hg⟩|⟨hz,hg⟩|⟨hz,hg⟩
 case' inl =>
  rw [if_pos hz] at hv4;subst hv4;rw [hg] at hk2;simp -implicitDefEqProofs [go_sem,hB1.cell,hk2];rw [e0 hz]
 case' inr.inl =>
  rw [if_neg hz] at hv4;subst hv4;have hz':(value==0#64)=false:=by simpa using hz
  rw [hg] at hk2;simp -implicitDefEqProofs [go_sem,hB1.cell,hk2,hz']
 case' inr.inr =>
  rw [if_neg hz] at hv4;subst hv4;have hz':(value==0#64)=false:=by simpa using hz
  rw [hg] at hk2;simp -implicitDefEqProofs [go_sem,hB1.cell,hk2,hz']
 all_goals
  clear hk2 e0 hg hz;refine drawE_alt [.pure 0,.pure 1,.pure 2,.pure 4,.pure 5,.pure 7,.take 3,.take 6,.take 8] 9 [] [.run 10 [3,6,8],.run 11 []] 10 [3,6,8] [.run 9 [],.run 11 []] mixed (by decide +kernel) (by simp only [wo];rfl) (by simp only [wo];rfl) (by simp only [wo];rfl) ?_;have bd:=(Below.refl w4.heap.size w4).drew;have bel5:Below w0.heap.size w0 (World.drew w4):=bel4.drew;generalize World.drew w4=w5 at *;replace h:=h.next bd
  replace hx:=hx.next bd
  replace hj:=hj.next bd
  replace hB1:=hB1.next bd
  replace hB2:=hB2.next bd
  have c3:w5.cell? ⟨j,3,none⟩=some (.int .u64 (uv st)):=hj.cell 3;simp -implicitDefEqProofs [go_sem];refine onTake_of (fun w'=>Below w5.heap.size w5 w') (.int .u64 (uv st)) (Below.refl _ _) (fun w' hw=>by
   have c3:w'.cell? ⟨j,3,none⟩=some (.int .u64 (uv st)):=(hj.next hw).cell 3;simp -implicitDefEqProofs [go_sem,c3]) ?_
  simp -implicitDefEqProofs [go_sem];refine onTake_of (fun w'=>Below w5.heap.size w5 w') (.bool y.gone) (Below.refl _ _) (fun w' hw=>by simp -implicitDefEqProofs [go_sem,(hB1.next hw).cell,hk2']) ?_;simp -implicitDefEqProofs [go_sem];refine onTake_of (fun w'=>Below w5.heap.size w5 w') (.string y.text) (Below.refl _ _) (fun w' hw=>by simp -implicitDefEqProofs [go_sem,(hB1.next hw).cell,hk1]) ?_
  have stR:=stNew (P:=Tryz.prog) (t:=184) (cs:=#[.int .u64 (uv st),.int .u64 (uv value),.bool y.gone,.string y.text]) (C0:=#[.int .u64 0,.int .u64 0,.bool false,.string ⟨#[]⟩]) recI rfl (by simp [Value.oneCell']);simp -implicitDefEqProofs [go_sem,↓stR];have hB6:=Blk.new w5 #[.int .u64 (uv st),.int .u64 (uv value),.bool y.gone,.string y.text] 184;have b6:=(Below.refl w5.heap.size w5).alloc (Nat.le_refl _) (.cells #[.int .u64 (uv st),.int .u64 (uv value),.bool y.gone,.string y.text] 184)
  refine ⟨⟨.inr ((Below.refl _ _).alloc (Nat.le_refl _) _),?_⟩,⟨.inr ((Below.refl _ _).alloc (Nat.le_refl _) _),?_⟩⟩
  all_goals
   generalize World.alloc w5 _=w6 at *;replace h:=h.next b6
   replace hx:=hx.next b6
   replace hj:=hj.next b6
   replace hB1:=hB1.next b6
   replace hB2:=hB2.next b6
   have bel6:=btr bel5 b6;refine drawE_mix [.pure 0,.pure 1,.pure 2,.pure 4,.pure 5,.pure 6,.take 3,.take 7,.run 8 [3,7],.run 9 [],.pure 10,.pure 11,.pure 12,.pure 13,.pure 14] mixed (by decide +kernel) (by simp only [wo];rfl) ?_;have bd7:=(Below.refl w6.heap.size w6).drew;have bel7:Below w0.heap.size w0 (World.drew w6):=bel6.drew;generalize World.drew w6=w7 at *;replace h:=h.next bd7
   replace hx:=hx.next bd7
   replace hj:=hj.next bd7
   replace hB1:=hB1.next bd7
   replace hB2:=hB2.next bd7
   replace hB6:=hB6.next bd7
   have c0:w7.cell? ⟨j,0,none⟩=some (.pointer (some ⟨p,0,none⟩)):=hj.cell 0;have c1:w7.cell? ⟨j,1,none⟩=some (.pointer (some ⟨b,0,none⟩)):=hj.cell 1;have ldR:=ldAll (P:=Tryz.prog) hB6 Tryz.underlying184 rfl recI (n:=4) rfl;simp -implicitDefEqProofs [go_sem];refine onTake_of (fun w'=>w'.cell? ⟨j,0,none⟩=some (.pointer (some ⟨p,0,none⟩))) (.pointer (some ⟨p,0,none⟩)) c0 (fun w' hw=>by simp -implicitDefEqProofs [go_sem,hw]) ?_;simp -implicitDefEqProofs [go_sem]
   refine onTake_of (fun w'=>w'.cell? ⟨j,1,none⟩=some (.pointer (some ⟨b,0,none⟩))) (.pointer (some ⟨b,0,none⟩)) c1 (fun w' hw=>by simp -implicitDefEqProofs [go_sem,hw]) ?_;simp -implicitDefEqProofs [go_sem,↓ldR];have hright:(⟨0,st,value,y.gone,y.text⟩:LinkV).right=true:=by
    unfold LinkV.right rightB;have h1:=hy.2.1;have h2:=hy.2.2;have h3:(st==0#64)=false:=by simpa using h0
    cases e:y.gone
    ·simp [h3,h1]
    ·simp [h3,h1,h2 e]
   have hg8:∀ {w'':World} {G'':Nat→Prop},Turn w7 G w'' G''→¬ G'' w1.heap.size:=fun t=>out_turn (fun hG=>by have:=hh.lt _ hG;have:=bel1.size;omega) hB2.lt t
   have hAdd:=sysAdd_calls ⟨0,st,value,y.gone,y.text⟩ w7 h hr hm (by omega) hright;unfold LinkV.rc at hAdd;refine callE_of hAdd ?_;rintro v w8 ⟨G8,V8,h8,t8,⟨rfl,hVV,hM⟩|⟨off,rfl,hG8,hL8⟩⟩
   ·refine ⟨.inr (by simp),?_⟩;have hB28:=hB2.mod t8.mod (fun hG=>by have:=hh.lt _ hG;have:=bel1.size;omega);have stP:=stAll (P:=Tryz.prog) (ty:=360) (cs:=#[.int .u64 0,.int .u64 0]) hB28 pastI rfl (past_one 0 0);simp -implicitDefEqProofs [go_sem,↓stP];refine bodyCell 4 5 rfl (by simp -implicitDefEqProofs [go_sem]) (hB28.row _) Tryz.underlying360 rfl pastI ?_;simp -implicitDefEqProofs [go_sem];rw [hVV] at h8
    exact ⟨V,G8,o,ch,0#64,0#64,6,rfl,sys_row h8 (hg8 t8) hgt,turn_row ((Turn.of bel7).trans t8) bel1.size,by omega,rfl,hS,.inr (.inr ⟨rfl,rfl,rfl,V,[],Grew.refl hr,by simp,hM⟩)⟩
   ·refine ⟨.inr (by simp),?_⟩;have z:=hL8.in_ hm;obtain ⟨_,z2,_,z4,z5,z6,_⟩:=z;have e1:=(name_int z4).1;have hs8:=hG8.steps;rw [List.length_singleton] at hs8;have hO8:=hS.own.grew hm hG8;have hB28:=hB2.mod t8.mod (fun hG=>by have:=hh.lt _ hG;have:=bel1.size;omega);have hB18:=hB1.mod t8.mod (fun hG=>by have:=hh.lt _ hG;omega);have hx8:=hx.mod t8.mod hxG;have hj8:=hj.mod t8.mod hjG;have hxG8:¬ G8 x:=out_turn hxG hx.lt t8;have hjG8:¬ G8 j:=out_turn hjG hj.lt t8
    have t08:=(Turn.of bel7).trans t8;simp -implicitDefEqProofs [go_sem];refine drawE_mix [.pure 0,.pure 1,.pure 2,.pure 4,.pure 6,.take 3,.run 5 [3],.run 7 [],.pure 8] mixed (by decide +kernel) (by simp only [wo];rfl) ?_;have bd9:=(Below.refl w8.heap.size w8).drew;generalize World.drew w8=w9 at *;have h9:=h8.next bd9
    have hx9:=hx8.next bd9
    have hj9:=hj8.next bd9
    have hB19:=hB18.next bd9
    have hB29:=hB28.next bd9
    have c29:w9.cell? ⟨j,2,none⟩=some (.pointer (some ⟨x,0,none⟩)):=hj9.cell 2;simp -implicitDefEqProofs [go_sem];refine onTake_of (fun w'=>w'.cell? ⟨j,2,none⟩=some (.pointer (some ⟨x,0,none⟩))) (.pointer (some ⟨x,0,none⟩)) c29 (fun w' hw=>by simp -implicitDefEqProofs [go_sem,hw]) ?_;simp -implicitDefEqProofs [go_sem,hB19.cell,hk0];refine callE_of (idxPut_calls x y.key o _ (nameW off) w9 h9 hm (by omega) hx9 hxG8 hy.1 hO8 z5) ?_
    rintro v w10 ⟨V10,G10,h10,t10,s10,hs10,⟨rfl,T10,hO10,hc10⟩|⟨rfl,hO10,hv10,V11,L11,hG11,hL11,hM11⟩⟩
    ·refine ⟨.inr (by simp),?_⟩;rw [← hvl] at hc10;have hW:=hS.write hm hG8 hL8 (Nat.le_refl _) rfl hf hO10 s10 hc10;have hB210:=hB29.mod t10.mod (hg8 t8);have stP:=stAll (P:=Tryz.prog) (ty:=360) (cs:=#[.int .u64 (uv value),.int .u64 (uv (nameW off))]) hB210 pastI rfl (past_one _ _);simp -implicitDefEqProofs [go_sem,↓stP];refine bodyCell 4 5 rfl (by simp -implicitDefEqProofs [go_sem]) (hB210.row _) Tryz.underlying360 rfl pastI ?_;simp -implicitDefEqProofs [go_sem]
     exact ⟨V10,G10,some T10,_,value,nameW off,0,rfl,sys_row h10 (hg8 ((t8.trans (Turn.of bd9)).trans t10)) hgt,turn_row ((t08.trans (Turn.of bd9)).trans t10) bel1.size,by omega,by rw [s10.head 64 (by decide) (by decide) (by decide),hG8.head 64 (by decide) (by decide)],hW.1,.inr (.inl ⟨rfl,off,_,hW.2,rfl,rfl,rfl⟩)⟩
    ·refine ⟨.inr (by simp),?_⟩;have c110:w10.cell? ⟨j,1,none⟩=some (.pointer (some ⟨b,0,none⟩)):=(hj9.mod t10.mod hjG8).cell 1;have hm10:off∈[off]++(chL ch (itemsO o)++[]):=by simp
     have hpos:0<Bk m V10 (off:Int):=(hO10.all off).2 (List.mem_append_right _ hm10);obtain ⟨V12,hdV,hD⟩:=gone_one hO10.rest hm hpos;have hDr:=sysDrop_calls off w10 h10 hO10.rest.well hm (by omega) z4;rw [hdV] at hDr;simp -implicitDefEqProofs [go_sem,c110,e1];refine callE_of hDr ?_;rintro v w12 ⟨rfl,G12,h12,t12⟩;obtain ⟨hO12,s12⟩:=hO10.drop hm hD;have hB212:=(hB29.mod t10.mod (hg8 t8)).mod t12.mod (hg8 ((t8.trans (Turn.of bd9)).trans t10))
     have stP:=stAll (P:=Tryz.prog) (ty:=360) (cs:=#[.int .u64 0,.int .u64 0]) hB212 pastI rfl (past_one 0 0);simp -implicitDefEqProofs [go_sem,↓stP];refine bodyCell 4 5 rfl (by simp -implicitDefEqProofs [go_sem]) (hB212.row _) Tryz.underlying360 rfl pastI ?_;simp -implicitDefEqProofs [go_sem]
     have hsd:Side m V V12 (chL ch (itemsO o)):=((hG8.side fun y hy=>hS.pos hy).trans (s10.sub fun y hy=>List.mem_append_right _ (List.mem_append_left _ hy))).trans (s12.sub fun y hy=>List.mem_append_left _ hy);have hS12:Sto m V12 o ch [] st.toNat:=⟨hO12,fun e he=>⟨(hS.chain e he).1.side hsd fun y hy=>chL_mem he hy,(hS.chain e he).2⟩⟩;have hst12:=hD.steps;rw [List.length_singleton] at hst12;have hlen:([off]++L11).length≤5:=by rw [List.length_append,List.length_singleton];omega
     exact ⟨V12,G12,o,ch,0#64,0#64,6,rfl,sys_row h12 (hg8 (((t8.trans (Turn.of bd9)).trans t10).trans t12)) hgt,turn_row (((t08.trans (Turn.of bd9)).trans t10).trans t12) bel1.size,by omega,hsd.head 64 (by decide) (by decide) (by decide),hS12,.inr (.inr ⟨rfl,rfl,rfl,V11,_,hG8.trans hG11,hlen,hM11⟩)⟩
end
end
section
open Go Go.RowKit Go.Shelf
attribute [local go_sem] Oper.semAt_some
def endsI (B:Nat)(J:World→Prop)(W:World):Exit→Act→World→Prop
 | .normal,_,W'=>KeepsFrom B W W'∧J W'
 | _,_,_=>False
def HandsOut (F:Fence)(n:Nat)(P:Program)(gf:Nat)(lb:Array Value)(encs:Nat→Array Value)(N:Nat)(I:Nat→World→Prop):Prop :=
 ∀ (l:Nat) (J:Nat→World→Prop) (W:World),(∀ i W,J i W→I i W) →
  (∀ i W1,i<N→J i W1→YieldAt F (n-1) P l (encs i) W1 fun e W'=>e=.returned (.bool true)∧J (i+1) W')→J 0 W →
  CallsIn F n P gf (#[.func (.yield l) #[] #[]]++lb) W fun e W'=>(∃ v,e=.returned v)∧J N W'
theorem range_in_order {F:Fence}{n:Nat}{P:Program}{w:World}{g:Operand}{ps:Array Tmp}{assign body:Code}{Q:Exit→Act→World→Prop}{a:Act}
  (hro:F.round=none) (h1:1≤n) {gf:Nat} {lb:Array Value} (hg:a.eval g=.func (.func gf) #[] lb) (hFg:F.fn gf) (eg:∀ args w,(callFunc gf args).run P w=.ok (.enter gf args) w)
  {encs:Nat→Array Value} {N:Nat} (hps:∀ i,(encs i).size=ps.size)
  (I:Nat→World→Prop) (hI:OwnFrom w.heap.size I) (h0:I 0 w) (hseq:HandsOut F (n-1) P gf lb encs N I)
  (A:Nat→Act→World→Prop) (hA:∀ i a',OwnFrom w.heap.size (fun (_:Unit) W=>A i a' W))
  (hassign:∀ (l i:Nat) (W:World) (K:Act→World→Prop),i<N→I i W→(∀ a' W',KeepsFrom w.heap.size W W'→A i a' W'→K a' W') →
   assign.wpIn (F.inRound l) (n-1-1) P (Exit.then K (fun _ _ _=>False)) { tmps:=(ps.zip (encs i)).foldl (fun t (p,v)=>t.setIfInBounds p v) a.tmps,defers:=[] } W)
  (hbody:∀ (l i:Nat) (a':Act) (W:World),w.heap.size≤l→i<N→A i a' W→body.wpIn (F.inRound l) (n-1-1) P (endsI w.heap.size (I (i+1)) W) a' W)
  (hdone:∀ (D:Nat) (W:World),w.heap.size≤D→I N W→W.heap[D]?=some (.deferred (some []))→Q .normal { a with defers:={ target:=.collected D,args:=#[] } :: a.defers } W) :
  (Code.rangeFunc g ps assign body).wpIn F n P Q a w:=by
 refine wpIn_rangeFunc fun fn hfn=>?_
 rw [hro];let rec_:LoopState→Loop:=fun st=>{ state:=st,pending:=none,fn,tmps:=a.tmps,params:=ps,assign,body,defers:=w.heap.size }
 let L:=w.heap.size+1;let W1:=(w.alloc (.deferred (some []))).alloc (.loop (rec_ .ready));have sz1:W1.heap.size=w.heap.size+2:=by simp [W1]
 have hL1:W1.heap[L]?=some (.loop (rec_ .ready)):=by
  have h:=World.alloc_heap_new (w.alloc (.deferred (some []))) (.loop (rec_ .ready))
  rwa [World.size_alloc] at h
 have hK1:W1.heap[w.heap.size]?=some (.deferred (some [])):=(Below.heap_alloc _ _ _ (by simp)).trans (World.alloc_heap_new w _);have hI1:I 0 W1:=hI.alloc _ (hI.alloc _ h0);refine ⟨L,[{ target:=.collected w.heap.size,args:=#[] }],W1,{ target:=.fn (.func gf) lb,args:=#[.func (.yield L) #[] #[]] },W1,gf,#[.func (.yield L) #[] #[]]++lb,W1,run_enterLoop_outer _ _ _ _ _,?_,?_,?_,fun _=>h1,?_⟩
 ·simp only [resolve,hg];simp [go_sem]
 ·intro f' hf';simp [Target.leads] at hf';subst hf';exact hFg
 ·simp [invoke,go_sem,eg]
 ·refine (hseq L (fun i W=>I i W∧W.heap[L]?=some (.loop (rec_ .ready))∧W.heap[w.heap.size]?=some (.deferred (some []))) W1 (fun _ _ h=>h.1) ?_ ⟨hI1,hL1,hK1⟩).mono ?_
  ·rintro i W hiN ⟨hi,hl,hk⟩;refine ⟨fn,_,assign,body,run_yield (P:=P) (args:=encs i) hl (hps i),roundIn_of_wpIn hfn (hassign L i W _ hiN hi fun a' Wa hka hax=>?_)⟩;have hl2:=hka.same _ _ (show w.heap.size≤L by omega) hl rfl;have hk2:=hka.same _ _ (Nat.le_refl _) hk rfl;have hlt:L<Wa.heap.size:=(Array.getElem?_eq_some_iff.1 hl2).1;refine ⟨_,run_beginRound hl2 rfl,?_⟩
   have hl3:(Wa.putObj L (.loop { rec_ .ready with state:=.busy })).heap[L]?=some (.loop { rec_ .ready with state:=.busy }):=World.putObj_heap_same hlt;have hk3:(Wa.putObj L (.loop { rec_ .ready with state:=.busy })).heap[w.heap.size]?=some (.deferred (some [])):=(World.putObj_heap_other (by omega)).trans hk2;refine wpIn_mono (hbody L i a' _ (by omega) hiN ((hA i a').putObj (s:=()) _ hax (by omega) hl2 rfl)) ?_;rintro e a3 W3 hp;cases e with
   | normal =>
    obtain ⟨hkp,hi3⟩:=hp;have hl4:=hkp.same _ _ (show w.heap.size≤L by omega) hl3 rfl;exact ⟨_,_,run_endRound (P:=P) none hl4,rfl,hI.putObj _ hi3 (by omega) hl4 rfl,World.putObj_heap_same (Array.getElem?_eq_some_iff.1 hl4).1,(World.putObj_heap_other (by omega)).trans (hkp.same _ _ (Nat.le_refl _) hk3 rfl)⟩
   | ret=>exact hp.elim
   | exit id=>exact hp.elim
   | goto t=>exact hp.elim
   | panic ch=>exact hp.elim
   | outgrown=>exact hp.elim
  ·rintro e W2 ⟨⟨v,rfl⟩,hi,hl,hk⟩;exact ⟨none,_,run_endLoop (P:=P) hl (by simp [rec_]),hdone _ _ (Nat.le_refl _) (hI.putObj _ hi (by omega) hl rfl) ((World.putObj_heap_other (by omega)).trans hk)⟩
end
section
open Go Go.RowKit Go.Shelf
attribute [local go_sem] Oper.semAt_some
def PastV.cs (p:PastV):Array Value:=#[.int .u64 (uv p.value),.int .u64 (uv p.place)]
structure BwdOk (Bl:Nat) (a:Option Addr) (c:Nat) (L:List PastV) (W:World):Prop where
 l:W.cell? ⟨Bl,0,none⟩=some (.slice a L.length c)
 c:∀ j (h:j<L.length),∃ g,a=some ⟨g,0,none⟩∧W.cell? ⟨g,j*2,none⟩=some (.int .u64 (uv L[j].value))∧W.cell? ⟨g,j*2+1,none⟩=some (.int .u64 (uv L[j].place))
def encB (L:List PastV)(i:Nat):Array Value:=#[.int .i64 ((L.length:Int)-1-i),.agg #[.int .u64 (uv (L.getD (L.length-1-i) ⟨⟨#[]⟩,0#64,0#64⟩).value),.int .u64 (uv (L.getD (L.length-1-i) ⟨⟨#[]⟩,0#64,0#64⟩).place)]]
set_option maxHeartbeats 4000000 in
theorem bwd_hands (n:Nat)(hn:1≤n)(Bl:Nat)(a:Option Addr)(c:Nat)(L:List PastV)(hL:L.length≤1000)(I:Nat→World→Prop)(hR:∀ i W,I i W→BwdOk Bl a c L W) :
  HandsOut Fence.wide n Tryz.prog 256 #[.pointer (some ⟨Bl,0,none⟩)] (encB L) L.length I:=by
 intro l J W hJI hY h0;refine callsIn_of_wp Tryz.func256 rfl trivial ?_ rfl;simp only [Tryz.ntmps256,List.size_toArray,List.length_cons,List.length_nil,Nat.reduceAdd,Nat.reduceSub,Array.replicate_succ,Array.replicate_zero,List.push_toArray,List.append_toArray,List.nil_append,List.cons_append];have hB:=hR 0 W (hJI 0 W h0);have hBl:=hB.l;have hw0:=IntWalk.i64_in ((L.length:Int)-1) (by omega)
 gi_wp2
 gi_loopw [3] (fun z wr=>∃ k:Nat,k≤L.length∧z=.int .i64 ((L.length:Int)-1-k)∧J k wr) (fun z _=>(intOf z+1).toNat)
 case atStart =>
  exact ⟨0,Nat.zero_le _,by simp,h0⟩
 case round =>
  obtain ⟨k,hk,rfl,hJ⟩:=hrel;have hBr:=hR k wr (hJI k wr hJ);clear hBl;have hBl:=hBr.l;by_cases hlt:k<L.length
  ·obtain ⟨m,hm⟩:∃ m,m=L.length-1-k:=⟨_,rfl⟩;have hml:m<L.length:=by omega
   have hz:(L.length:Int)-1-k=(m:Int):=by omega
   have hz0:(0:Int)≤(m:Int):=by omega
   have hz1:(m:Int)<(L.length:Int):=by omega
   have hw:=IntWalk.i64_in ((m:Int)-1) (by omega);obtain ⟨g,hga,hg1,hg2⟩:=hBr.c m hml;obtain ⟨fn,tmps,assign,body,hy,hRd⟩:=hY k wr hlt hJ;unfold encB at hy;rw [← hm,hz] at hy;have hgd:L.getD m ⟨⟨#[]⟩,0#64,0#64⟩=L[m]:=by rw [List.getD,List.getElem?_eq_getElem hml];rfl
   rw [hgd] at hy;rw [hz];have hkm:m+(k+1)=L.length:=by omega
   clear hm;have hz3:(m:Int)-1=(L.length:Int)-1-((k+1:Nat):Int):=by omega
   clear hz;subst hga
   gi_wp2
   refine hRd.mono ?_;rintro e W3 ⟨rfl,hJ3⟩
   gi_wp2
   go_roundw
   case rel=>exact ⟨k+1,by omega,by first|rfl|rw [hz3],hJ3⟩
   case measure=>simp [intOf];omega
  ·obtain rfl:k=L.length:=by omega
   have hc1:¬ ((0:Int)≤(L.length:Int)-1-(L.length:Int)):=by omega
   gi_wp2
   go_end0
   first|exact hJ|exact ⟨⟨_,rfl⟩,hJ⟩
theorem backward_calls (a:Option Addr)(n c:Nat)(w0:World):Ret Tryz.prog 253 #[.slice a n c] w0 fun v w' =>
  v=.func (.func 256) #[] #[.pointer (some ⟨w0.heap.size,0,none⟩)]∧w'=w0.alloc (.cells #[.slice a n c] 171):=by
 refine ret_of (args:=[_]) _ Tryz.func253 rfl Tryz.ntmps253 (by simp) ?_;simp -implicitDefEqProofs [go_sem];refine body_tmp 2 rfl ?_;simp -implicitDefEqProofs [go_sem]
end
end Go.Proofs.YtaaihijkdhmcdaaGreatDoor
