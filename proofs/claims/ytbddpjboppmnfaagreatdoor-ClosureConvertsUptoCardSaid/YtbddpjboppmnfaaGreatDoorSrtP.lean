/- The library's contracts at this program, as the kit's shelf lays them. No conditions of its own. -/
import Derived.Shelf.SlGeneric
import Derived.Shelf.SlIterI.Nil
import Derived.Shelf.SortM.Plain
import Derived.Shelf.SortM.SortNone
import Derived.Ground.GgzProg
import Derived.Ground.SlgmProg
import Derived.Test.YtbddpjboppmnfaaGreatDoorProg
namespace Go.Proofs
open Go.Shelf
def Tryz.keysA_ren:Go.Shelf.Ren:=⟨λ|10=>51|n=>n,λ|33=>99|23=>74|0=>0|4=>4|26=>3|3=>80|n=>n,λ|n=>n⟩
theorem Tryz.keysA:Go.Proofs.SlLaysZI.n10 Tryz.prog Tryz.keysA_ren:={
  mixed:=by kernel_rfl
  f10:=⟨Tryz.f51.name,by decide,Tryz.func51.trans (congrArg some (by kernel_rfl))⟩
  t0:=Tryz.underlying0
  a0:=Tryz.isAgg0
  z0:=Tryz.sizeOf0
  v0:=Tryz.zeroValue0
  t4:=Tryz.underlying4
  a4:=Tryz.isAgg4
  z4:=Tryz.sizeOf4
  v4:=Tryz.zeroValue4
  t23:=Tryz.underlying74
  a23:=Tryz.isAgg74
  z23:=Tryz.sizeOf74
  v23:=Tryz.zeroValue74
  t26:=Tryz.underlying3
  a26:=Tryz.isAgg3
  z26:=Tryz.sizeOf3
  v26:=Tryz.zeroValue3
  t33:=Tryz.underlying99
  a33:=Tryz.isAgg99
  z33:=Tryz.sizeOf99
  v33:=Tryz.zeroValue99}
def Tryz.sortedA_ren:Go.Shelf.Ren:=⟨λ|6=>33|8=>49|9=>50|11=>73|13=>75|12=>74|23=>99|24=>100|14=>90|15=>91|16=>92|17=>93|18=>94|19=>95|20=>96|21=>97|22=>98|25=>119|26=>120|27=>121|28=>122|29=>123|30=>124|31=>148|n=>n,λ|26=>3|28=>77|24=>40|0=>0|3=>3|37=>123|48=>143|50=>145|4=>4|40=>136|39=>135|45=>140|5=>5|9=>9|51=>168|55=>172|57=>210|58=>211|33=>99|n=>n,λ|n=>n⟩
theorem Tryz.sortedA:Go.Proofs.SlLaysZI.n6 Tryz.prog Tryz.sortedA_ren:={
  mixed:=by kernel_rfl
  f6:=⟨Tryz.f33.name,by decide,Tryz.func33.trans (congrArg some (by kernel_rfl))⟩
  f8:=⟨Tryz.f49.name,by decide,Tryz.func49.trans (congrArg some (by kernel_rfl))⟩
  f11:=⟨Tryz.f73.name,by decide,Tryz.func73.trans (congrArg some (by kernel_rfl))⟩
  t0:=Tryz.underlying0
  a0:=Tryz.isAgg0
  z0:=Tryz.sizeOf0
  v0:=Tryz.zeroValue0
  t24:=Tryz.underlying40
  a24:=Tryz.isAgg40
  z24:=Tryz.sizeOf40
  v24:=Tryz.zeroValue40
  t26:=Tryz.underlying3
  a26:=Tryz.isAgg3
  z26:=Tryz.sizeOf3
  v26:=Tryz.zeroValue3
  t28:=Tryz.underlying77
  a28:=Tryz.isAgg77
  z28:=Tryz.sizeOf77
  v28:=Tryz.zeroValue77
  i26:=by kernel_rfl}
def Tryz.sortA_ren:Go.Shelf.Ren:=⟨λ|5=>50|8=>75|7=>74|19=>99|20=>100|10=>90|11=>91|12=>92|13=>93|14=>94|15=>95|16=>96|17=>97|18=>98|30=>119|31=>120|32=>121|33=>122|34=>123|35=>124|40=>148|n=>n,λ|23=>40|25=>3|3=>3|32=>123|22=>40|0=>0|44=>143|46=>145|4=>4|36=>136|35=>135|41=>140|5=>5|9=>9|53=>168|57=>172|63=>210|64=>211|n=>n,λ|n=>n⟩
theorem Tryz.sortA:Go.Proofs.SlLaysM.n5 Tryz.prog Tryz.sortA_ren:={
  mixed:=by kernel_rfl
  f5:=⟨Tryz.f50.name,by decide,Tryz.func50.trans (congrArg some (by kernel_rfl))⟩
  f7:=⟨Tryz.f74.name,by decide,Tryz.func74.trans (congrArg some (by kernel_rfl))⟩
  f8:=Tryz.func75.trans (congrArg some (by kernel_rfl))
  f10:=⟨Tryz.f90.name,by decide,Tryz.func90.trans (congrArg some (by kernel_rfl))⟩
  f11:=⟨Tryz.f91.name,by decide,Tryz.func91.trans (congrArg some (by kernel_rfl))⟩
  f12:=⟨Tryz.f92.name,by decide,Tryz.func92.trans (congrArg some (by kernel_rfl))⟩
  f13:=⟨Tryz.f93.name,by decide,Tryz.func93.trans (congrArg some (by kernel_rfl))⟩
  f14:=⟨Tryz.f94.name,by decide,Tryz.func94.trans (congrArg some (by kernel_rfl))⟩
  f15:=⟨Tryz.f95.name,by decide,Tryz.func95.trans (congrArg some (by kernel_rfl))⟩
  f16:=⟨Tryz.f96.name,by decide,Tryz.func96.trans (congrArg some (by kernel_rfl))⟩
  f17:=⟨Tryz.f97.name,by decide,Tryz.func97.trans (congrArg some (by kernel_rfl))⟩
  f18:=⟨Tryz.f98.name,by decide,Tryz.func98.trans (congrArg some (by kernel_rfl))⟩
  f19:=Tryz.func99.trans (congrArg some (by kernel_rfl))
  f20:=Tryz.func100.trans (congrArg some (by kernel_rfl))
  f30:=⟨Tryz.f119.name,by decide,Tryz.func119.trans (congrArg some (by kernel_rfl))⟩
  f31:=Tryz.func120.trans (congrArg some (by kernel_rfl))
  f32:=Tryz.func121.trans (congrArg some (by kernel_rfl))
  f33:=⟨Tryz.f122.name,by decide,Tryz.func122.trans (congrArg some (by kernel_rfl))⟩
  f34:=⟨Tryz.f123.name,by decide,Tryz.func123.trans (congrArg some (by kernel_rfl))⟩
  f35:=⟨Tryz.f124.name,by decide,Tryz.func124.trans (congrArg some (by kernel_rfl))⟩
  f40:=⟨Tryz.f148.name,by decide,Tryz.func148.trans (congrArg some (by kernel_rfl))⟩
  t0:=Tryz.underlying0
  a0:=Tryz.isAgg0
  z0:=Tryz.sizeOf0
  v0:=Tryz.zeroValue0
  t3:=Tryz.underlying3
  a3:=Tryz.isAgg3
  z3:=Tryz.sizeOf3
  v3:=Tryz.zeroValue3
  t4:=Tryz.underlying4
  a4:=Tryz.isAgg4
  z4:=Tryz.sizeOf4
  v4:=Tryz.zeroValue4
  t5:=Tryz.underlying5
  a5:=Tryz.isAgg5
  z5:=Tryz.sizeOf5
  v5:=Tryz.zeroValue5
  t9:=Tryz.underlying9
  a9:=Tryz.isAgg9
  z9:=Tryz.sizeOf9
  v9:=Tryz.zeroValue9
  t22:=Tryz.underlying40
  a22:=Tryz.isAgg40
  z22:=Tryz.sizeOf40
  v22:=Tryz.zeroValue40
  t23:=Tryz.underlying40
  a23:=Tryz.isAgg40
  z23:=Tryz.sizeOf40
  v23:=Tryz.zeroValue40
  t25:=Tryz.underlying3
  a25:=Tryz.isAgg3
  z25:=Tryz.sizeOf3
  v25:=Tryz.zeroValue3
  t32:=Tryz.underlying123
  a32:=Tryz.isAgg123
  z32:=Tryz.sizeOf123
  v32:=Tryz.zeroValue123
  t35:=Tryz.underlying135
  a35:=Tryz.isAgg135
  z35:=Tryz.sizeOf135
  v35:=Tryz.zeroValue135
  t36:=Tryz.underlying136
  a36:=Tryz.isAgg136
  z36:=Tryz.sizeOf136
  v36:=Tryz.zeroValue136
  t41:=Tryz.underlying140
  a41:=Tryz.isAgg140
  z41:=Tryz.sizeOf140
  v41:=Tryz.zeroValue140
  t44:=Tryz.underlying143
  a44:=Tryz.isAgg143
  z44:=Tryz.sizeOf143
  v44:=Tryz.zeroValue143
  t46:=Tryz.underlying145
  a46:=Tryz.isAgg145
  z46:=Tryz.sizeOf145
  v46:=Tryz.zeroValue145
  t53:=Tryz.underlying168
  a53:=Tryz.isAgg168
  z53:=Tryz.sizeOf168
  v53:=Tryz.zeroValue168
  t57:=Tryz.underlying172
  a57:=Tryz.isAgg172
  z57:=Tryz.sizeOf172
  v57:=Tryz.zeroValue172
  t63:=Tryz.underlying210
  a63:=Tryz.isAgg210
  z63:=Tryz.sizeOf210
  v63:=Tryz.zeroValue210
  t64:=Tryz.underlying211
  a64:=Tryz.isAgg211
  z64:=Tryz.sizeOf211
  v64:=Tryz.zeroValue211}
open Go.RowKit Go.Maps Go.Sort
theorem Tryz.sortsA(m:Nat):AnyZI.SortsIn Tryz.prog Tryz.sortedA_ren Fence.wide m:=
  ⟨λblk off cap ss W hH hblk hsz=>callsIn_wide.2 (AnyM.slices_Sort_int Tryz.sortA blk off cap ss W hH hblk hsz),
   λp cap W=>callsIn_wide.2 (AnyM.slices_Sort_int_none Tryz.sortA p cap W)⟩
theorem Tryz.sorted_keys{H:Type}(Bm b nn:Nat)(D0:DataW H)(R:Value->Option (DataW H×List MemPlace))(w:World)(hBm:Bm<w.heap.size)(hm:w.cell? ⟨Bm,0,none⟩=some (.map (some b)))(hown:w.ownsMap Tryz.prog 3 R b nn D0)(hmax:Maps.size D0<=maxLen)(hbytes:Maps.size D0*8<=140737488355328):
    Calls Tryz.prog 33 #[.func (.func 51) #[] #[.pointer (some ⟨Bm,0,none⟩)]] w λe w'=>∃(v:Value) (ss:List Int),e=.returned v/\ss.Perm (intKeys D0)/\w'.ownsRow w.heap.size 3 1 v ss.length ((ss.mergeSort (λx y=>decide (x<=y))).map encZ)/\Below w.heap.size w w':=by
  refine(callsIn_wide (n:=6)).1 ?_
  have hseq:SeqGives Fence.wide 3 Tryz.prog 51 #[.pointer (some ⟨Bm,0,none⟩)] encZ (λss=>ss.Perm (intKeys D0)) (Maps.size D0) w:=
    AnyZI.keys_gives (ρ:=Tryz.keysA_ren) Tryz.keysA Fence.wide _ trivial rfl (by omega) Bm b nn D0 w hBm hm hown
  have cS:=AnyZI.sorted_in Tryz.sortedA Fence.wide 6 trivial trivial trivial trivial rfl (by omega) (Tryz.sortsA _) (enters_of Tryz.func50 (by kernel_rfl) rfl) 51 #[.pointer (some ⟨Bm,0,none⟩)] trivial (enters_of Tryz.func51 (by kernel_rfl) rfl) _ _ hmax hbytes w hseq
  change CallsIn _ _ Tryz.prog 33 _ _ _ at cS
  refine cS.mono ?_
  rintro e w' ⟨v,ss,rfl,hS,hrow,_,hb⟩
  exact⟨v,ss,rfl,hS,hrow,hb⟩
end Go.Proofs
